/- Parts of the proofs over layers 32 and 35: ways in plain words, the law's asked, the law LiveWays walked. Conditions: each theorem's own. -/
import Derived.Test.YtefndpejmikioaaDoorM11
import Derived.Shelf.Slices.Clone
import Derived.Deep.RegionHeld3
/- Plain: ways: a register is live just where a way without rounds leads to an instruction that reads it, and none ahead of that writes it. No conditions. -/
namespace Go.Proofs.YtefndpejmikioaaDoor
open Go.RowKit Go.Proofs.YtefndpejmikioaaDoorW.PrintWords Go.Proofs.YtefndpejmikioaaDoor.PFlowReads
/-- Is r read in these instructions, ahead of being written? -/
def useA (r : Int) : List S47 → Bool
  | [] => false
  | x :: l => if r ∈ usesF x then true else if setsB x.f0 = true ∧ x.f1 = r then false else useA r l
/-- Is r neither read nor written in these instructions? -/
def thruA (r : Int) : List S47 → Bool
  | [] => true
  | x :: l => if r ∈ usesF x then false else if setsB x.f0 = true ∧ x.f1 = r then false else thruA r l
theorem propA_iff (P : Int → Prop) (r : Int) : ∀ l : List S47, PropA P l r ↔ useA r l = true ∨ (thruA r l = true ∧ P r)
  | [] => by simp [PropA, useA, thruA]
  | x :: l => by
    have ih := propA_iff P r l
    show (r ∈ usesL x ∨ (PropA P l r ∧ ¬ (setsB x.f0 = true ∧ x.f1 = r))) ↔ _
    rw [ih]
    rw [show useA r (x :: l) = (if r ∈ usesF x then true else if setsB x.f0 = true ∧ x.f1 = r then false else useA r l) from rfl, show thruA r (x :: l) = (if r ∈ usesF x then false else if setsB x.f0 = true ∧ x.f1 = r then false else thruA r l) from rfl]
    have hu : r ∈ usesF x ↔ r ∈ usesL x := rise_mem
    by_cases h1 : r ∈ usesL x
    · rw [if_pos (hu.2 h1), if_pos (hu.2 h1)]
      exact ⟨fun _ => .inl rfl, fun _ => .inl h1⟩
    · rw [if_neg (fun h => h1 (hu.1 h)), if_neg (fun h => h1 (hu.1 h))]
      by_cases h2 : setsB x.f0 = true ∧ x.f1 = r
      · rw [if_pos h2, if_pos h2]
        constructor
        · rintro (h | ⟨_, h⟩)
          · exact absurd h h1
          · exact absurd h2 h
        · rintro (h | ⟨h, _⟩) <;> cases h
      · rw [if_neg h2, if_neg h2]
        constructor
        · rintro (h | ⟨h, _⟩)
          · exact absurd h h1
          · exact h
        · intro h
          exact .inr ⟨h, h2⟩
/-- What asked finds: from instruction i of block k on, seen being the blocks that were begun. -/
inductive Ask (bs : List (List S47)) (r : Int) : Nat → Nat → List Int → Prop
  | use (k i : Nat) (seen : List Int) (h : useA r ((bs.getD k []).drop i) = true) : Ask bs r k i seen
  | go (k i : Nat) (seen : List Int) (j : Int) (h : thruA r ((bs.getD k []).drop i) = true) (hj : j ∈ nextB (bs.getD k [])) (hs : j ∉ seen) (ha : Ask bs r j.toNat 0 (seen ++ [j])) : Ask bs r k i seen
theorem ask_iff (bs : List (List S47)) (r : Int) (k i : Nat) (seen : List Int) : Ask bs r k i seen ↔ useA r ((bs.getD k []).drop i) = true ∨ (thruA r ((bs.getD k []).drop i) = true ∧ ∃ j ∈ nextB (bs.getD k []), j ∉ seen ∧ Ask bs r j.toNat 0 (seen ++ [j])) := by
  constructor
  · rintro (⟨_, _, _, h⟩ | ⟨_, _, _, j, h, hj, hs, ha⟩)
    · exact .inl h
    · exact .inr ⟨h, j, hj, hs, ha⟩
  · rintro (h | ⟨h, j, hj, hs, ha⟩)
    · exact .use _ _ _ h
    · exact .go _ _ _ j h hj hs ha
theorem ask_sound {bs : List (List S47)} (hnx : NextOk bs) {r : Int} {k i : Nat} {seen : List Int} (h : Ask bs r k i seen) : k < bs.length → PropA (LvOut bs k) ((bs.getD k []).drop i) r := by
  induction h with
  | use k i seen h => exact fun _ => (propA_iff _ _ _).2 (.inl h)
  | go k i seen j h hj hs ha ih =>
    intro hk
    have hjk := hnx k hk j hj
    have := ih (by omega)
    rw [List.drop_zero] at this
    exact (propA_iff _ _ _).2 (.inr ⟨h, j, hj, lv_closed (by omega) this⟩)
/-- A reading of r is at most m blocks away from the head of block k. -/
def Near (bs : List (List S47)) (r : Int) : Nat → Nat → Prop
  | 0, k => useA r (bs.getD k []) = true
  | m + 1, k => useA r (bs.getD k []) = true ∨ (thruA r (bs.getD k []) = true ∧ ∃ j ∈ nextB (bs.getD k []), Near bs r m j.toNat)
theorem near_of_lv {bs : List (List S47)} {r : Int} {k : Nat} (h : LvB bs k r) : ∃ m, Near bs r m k := by
  refine h (fun k r' => r' = r → ∃ m, Near bs r m k) (fun k r' hk ht hr => ?_) rfl
  subst hr
  rcases (propA_iff _ _ _).1 ht with h | ⟨h, j, hj, hs⟩
  · exact ⟨0, h⟩
  · obtain ⟨m, hm⟩ := hs rfl
    exact ⟨m + 1, .inr ⟨h, j, hj, hm⟩⟩
theorem ask_near {bs : List (List S47)} {r : Int} : ∀ (m k i : Nat) (seen : List Int), (i = 0 ∧ Near bs r m k ∧ ∀ m', m' < m → ¬ Near bs r m' k) → (∀ s ∈ seen, ∀ m', m' < m → ¬ Near bs r m' s.toNat) → Ask bs r k i seen
  | 0, k, i, seen, ⟨hi, hn, _⟩, _ => .use _ _ _ (by subst hi; rw [List.drop_zero]; exact hn)
  | m + 1, k, i, seen, ⟨hi, hn, hmin⟩, hs => by
    subst hi
    rcases hn with h | ⟨h, j, hj, hjn⟩
    · exact .use _ _ _ (by rw [List.drop_zero]; exact h)
    · have hjm : ∀ m', m' < m → ¬ Near bs r m' j.toNat := fun m' hm' hn' => hmin (m' + 1) (by omega) (.inr ⟨h, j, hj, hn'⟩)
      refine .go _ _ _ j (by rw [List.drop_zero]; exact h) hj (fun hm => hs j hm m (by omega) hjn) (ask_near m j.toNat 0 (seen ++ [j]) ⟨rfl, hjn, hjm⟩ (fun s hs' m' hm' => ?_))
      rcases List.mem_append.1 hs' with h1 | h1
      · exact hs s h1 m' (by omega)
      · rw [List.mem_singleton.1 h1]
        exact hjm m' hm'
theorem near_least {bs : List (List S47)} {r : Int} {k : Nat} (h : ∃ m, Near bs r m k) : ∃ m, Near bs r m k ∧ ∀ m', m' < m → ¬ Near bs r m' k := by
  obtain ⟨n, hn⟩ := h
  induction n using Nat.strongRecOn with
  | _ n ih =>
    by_cases hm : ∃ m, m < n ∧ Near bs r m k
    · obtain ⟨m, hlt, hp⟩ := hm
      exact ih m hlt hp
    · exact ⟨n, hn, fun m' hm' hn' => hm ⟨m', hm', hn'⟩⟩
/-- From the head of a block, which has been begun. -/
theorem ask_head {bs : List (List S47)} (hnx : NextOk bs) {r : Int} {k : Nat} (hk : k < bs.length) : Ask bs r k 0 [(k : Int)] ↔ LvB bs k r := by
  constructor
  · intro h
    have := ask_sound hnx h hk
    rw [List.drop_zero] at this
    exact lv_closed hk this
  · intro h
    obtain ⟨m, hm, hmin⟩ := near_least (near_of_lv h)
    refine ask_near m k 0 [(k : Int)] ⟨rfl, hm, hmin⟩ (fun s hs m' hm' => ?_)
    rw [List.mem_singleton.1 hs, Int.toNat_natCast]
    exact hmin m' hm'
/-- From behind an instruction, no block having been begun. -/
theorem ask_at {bs : List (List S47)} (hnx : NextOk bs) {r : Int} {k i : Nat} (hk : k < bs.length) : Ask bs r k (i + 1) [] ↔ LvAt bs k i r := by
  constructor
  · intro h
    exact ask_sound hnx h hk
  · intro h
    rcases (propA_iff _ _ _).1 h with h | ⟨h, j, hj, hl⟩
    · exact .use _ _ _ h
    · obtain ⟨m, hm, hmin⟩ := near_least (near_of_lv hl)
      refine .go _ _ _ j h hj (by simp) (ask_near m j.toNat 0 ([] ++ [j]) ⟨rfl, hm, hmin⟩ (fun s hs m' hm' => ?_))
      rw [List.nil_append] at hs
      rw [List.mem_singleton.1 hs]
      exact hmin m' hm'
theorem useA_drop {r : Int} {l : List S47} {i : Nat} (h : i < l.length) : useA r (l.drop i) = (if r ∈ usesF (l.getD i z47) then true else if setsB (l.getD i z47).f0 = true ∧ (l.getD i z47).f1 = r then false else useA r (l.drop (i + 1))) := by
  rw [List.drop_eq_getElem_cons h, List.getD_eq_getElem?_getD, List.getElem?_eq_getElem h]
  rfl
theorem thruA_drop {r : Int} {l : List S47} {i : Nat} (h : i < l.length) : thruA r (l.drop i) = (if r ∈ usesF (l.getD i z47) then false else if setsB (l.getD i z47).f0 = true ∧ (l.getD i z47).f1 = r then false else thruA r (l.drop (i + 1))) := by
  rw [List.drop_eq_getElem_cons h, List.getD_eq_getElem?_getD, List.getElem?_eq_getElem h]
  rfl
end Go.Proofs.YtefndpejmikioaaDoor

/- Walk: the law's asked. Conditions: the function's numbers are in order; lists not longer than 900000. -/
namespace Go.Proofs.YtefndpejmikioaaDoor
open Go.RowKit Go.Proofs.YtefndpejmikioaaDoorW.PrintWords Go.Proofs.YtefndpejmikioaaDoor.PFlowReads
open Classical in
/-- What asked answers. -/
noncomputable def askB (bs : List (List S47)) (r : Int) (k i : Nat) (seen : List Int) : Bool := decide (Ask bs r k i seen)
open Classical in
theorem askB_use {bs : List (List S47)} {r : Int} {k i : Nat} {seen : List Int} (h : useA r ((bs.getD k []).drop i) = true) : askB bs r k i seen = true := decide_eq_true (.use _ _ _ h)
open Classical in
theorem askB_go {bs : List (List S47)} {r : Int} {k i : Nat} {seen : List Int} {j : Int} (h : thruA r ((bs.getD k []).drop i) = true) (hj : j ∈ nextB (bs.getD k [])) (hs : j ∉ seen) (ha : askB bs r j.toNat 0 (seen ++ [j]) = true) : askB bs r k i seen = true := decide_eq_true (.go _ _ _ j h hj hs (of_decide_eq_true ha))
open Classical in
theorem askB_stop {bs : List (List S47)} {r : Int} {k i : Nat} {seen : List Int} (h1 : useA r ((bs.getD k []).drop i) = false) (h2 : thruA r ((bs.getD k []).drop i) = false) : askB bs r k i seen = false := decide_eq_false (fun h => by
  rcases (ask_iff ..).1 h with h | ⟨h, _⟩
  · rw [h1] at h; cases h
  · rw [h2] at h; cases h)
open Classical in
theorem askB_none {bs : List (List S47)} {r : Int} {k i : Nat} {seen : List Int} (h1 : useA r ((bs.getD k []).drop i) = false) (h2 : ∀ t, t < (nextB (bs.getD k [])).length → (nextB (bs.getD k [])).getD t 0 ∈ seen ∨ askB bs r ((nextB (bs.getD k [])).getD t 0).toNat 0 (seen ++ [(nextB (bs.getD k [])).getD t 0]) = false) : askB bs r k i seen = false := decide_eq_false (fun h => by
  rcases (ask_iff ..).1 h with h | ⟨_, j, hj, hs, ha⟩
  · rw [h1] at h; cases h
  · obtain ⟨t, ht, rfl⟩ := List.mem_iff_getElem.1 hj
    have h3 := h2 t ht
    rw [getD_lt ht] at h3
    rcases h3 with h3 | h3
    · exact hs h3
    · exact of_decide_eq_false h3 ha)
/-- The blocks begun: each once, and blocks. -/
def SeenOk (n : Nat) (seen : List Int) : Prop := seen.Nodup ∧ ∀ s ∈ seen, 0 ≤ s ∧ s < n
theorem SeenOk.len {n : Nat} {seen : List Int} (h : SeenOk n seen) : seen.length ≤ n := nodup_len n seen h.1 h.2
theorem SeenOk.next {n : Nat} {seen : List Int} (h : SeenOk n seen) {j : Int} (hj : 0 ≤ j ∧ j < n) (hs : j ∉ seen) : SeenOk n (seen ++ [j]) := ⟨by
  rw [List.nodup_append]
  refine ⟨h.1, by simp, fun a ha b hb e => ?_⟩
  rw [List.mem_singleton.1 hb] at e
  exact hs (e ▸ ha), fun s hs' => by
  rcases List.mem_append.1 hs' with h1 | h1
  · exact h.2 s h1
  · rw [List.mem_singleton.1 h1]; exact hj⟩
/-- asked's box: the function. -/
def ABox (w : World) (regs : Int) (A : Option Addr) (n cap : Nat) (W : World) : Prop := Below w.heap.size w W ∧ W.heap[w.heap.size]? = some (.cells #[.int .i64 regs, .slice A n cap] 24 (0, 0))
theorem ABox.below {w W W' : World} {regs : Int} {A : Option Addr} {n cap : Nat} (h : ABox w regs A n cap W) (hb : Below W.heap.size W W') : ABox w regs A n cap W' := ⟨below_then h.1 h.1.size hb, blk_below h.2 hb⟩
/-- What is asked of asked. -/
def AskedOk (bs : List (List S47)) (regs : Int) (A : Option Addr) (n cap : Nat) (r : Int) (seen : List Int) : Prop :=
  ∀ (k i : Nat) (v : Value) (w : World), k < n → i ≤ (bs.getD k []).length → (Kd.slice 47 k47).C w A n bs → IsI w v seen →
    Calls Tryd.prog 23 #[.agg #[.int .i64 regs, .slice A n cap], .int .i64 k, .int .i64 i, .int .i64 r, v] w fun e w' => e = .returned (.bool (askB bs r k i seen)) ∧ Below w.heap.size w w'
set_option maxHeartbeats 8000000 in
set_option maxRecDepth 100000 in
theorem asked_step (bs : List (List S47)) (regs : Int) (A : Option Addr) (n cap : Nat) (r : Int) (seen : List Int) (hl : bs.length = n) (hok : FunOk bs) (hn : n ≤ 65536) (hls : ∀ k, k < bs.length → ∀ x ∈ bs.getD k [], x.f5.length ≤ 900000 ∧ x.f7.length ≤ 900000) (hseen : SeenOk n seen)
    (hrec : ∀ j : Int, 0 ≤ j → j < n → j ∉ seen → AskedOk bs regs A n cap r (seen ++ [j])) : AskedOk bs regs A n cap r seen := by
  intro k i v w hk hi h hv
  have hsl := hseen.len
  have HC := Lib.hid h
  have HL := Lib.hid hl
  have HOK := Lib.hid hok
  have HLS := Lib.hid hls
  have HV := Lib.hid hv
  have HREC := Lib.hid hrec
  have hkb : k < bs.length := by omega
  have HB0 : Hid (ABox w regs A n cap (w.alloc (.cells #[.int .i64 regs, .slice A n cap] 24))) := Lib.hid ⟨below_alloc (Below.refl _ _) _, blk_new _ _⟩
  have g1 : (w.alloc (.cells #[.int .i64 regs, .slice A n cap] 24)).cell? ⟨w.heap.size, 1, none⟩ = some (.slice A n cap) := by rw [blk_cell HB0.out.2]; rfl
  have hmx := h.2.1
  clear h hl hok hls hv hrec hseen
  obtain ⟨b, o, rfl, hcc⟩ := (blocks_of_C HC.out).2.2 (by omega)
  obtain ⟨A', c', hcell0, hlc, hBC⟩ := hcc k hk
  have HBC := Lib.hid hBC
  have hcell := pw_cell_below HB0.out.1 hcell0
  have hblm : (bs.getD k []).length ≤ 9223372036854775807 := hBC.2.1
  have HROW := Lib.hid (rows_of_C hBC)
  have HX := Lib.hid (HLS.out k hkb)
  have HUR : Hid (∀ j ∈ nextB (bs.getD k []), 0 ≤ j ∧ j < n) := Lib.hid (fun j hj => by have := HOK.out.next k hkb j hj; rw [HL.out] at this; exact this)
  have HULN : Hid ((nextB (bs.getD k [])).length ≤ n) := Lib.hid (nextB_len _ _ HUR.out)
  have HU : Hid (∀ i, i < (bs.getD k []).length → useA r ((bs.getD k []).drop i) = (if r ∈ usesF ((bs.getD k []).getD i z47) then true else if setsB ((bs.getD k []).getD i z47).f0 = true ∧ ((bs.getD k []).getD i z47).f1 = r then false else useA r ((bs.getD k []).drop (i + 1)))) := Lib.hid (fun i h => useA_drop h)
  have HT : Hid (∀ i, i < (bs.getD k []).length → thruA r ((bs.getD k []).drop i) = (if r ∈ usesF ((bs.getD k []).getD i z47) then false else if setsB ((bs.getD k []).getD i z47).f0 = true ∧ ((bs.getD k []).getD i z47).f1 = r then false else thruA r ((bs.getD k []).drop (i + 1)))) := Lib.hid (fun i h => thruA_drop h)
  have HN0 : Hid (useA r ((bs.getD k []).drop (bs.getD k []).length) = false ∧ thruA r ((bs.getD k []).drop (bs.getD k []).length) = true) := Lib.hid (by rw [List.drop_length]; exact ⟨rfl, rfl⟩)
  have HA1 : Hid (useA r ((bs.getD k []).drop i) = true → askB bs r k i seen = true) := Lib.hid askB_use
  have HA2 : Hid (useA r ((bs.getD k []).drop i) = false → thruA r ((bs.getD k []).drop i) = false → askB bs r k i seen = false) := Lib.hid askB_stop
  have HA3 : Hid (∀ j, thruA r ((bs.getD k []).drop i) = true → j ∈ nextB (bs.getD k []) → j ∉ seen → askB bs r j.toNat 0 (seen ++ [j]) = true → askB bs r k i seen = true) := Lib.hid (fun j a b c d => askB_go a b c d)
  have HA4 : Hid (useA r ((bs.getD k []).drop i) = false → (∀ t, t < (nextB (bs.getD k [])).length → (nextB (bs.getD k [])).getD t 0 ∈ seen ∨ askB bs r ((nextB (bs.getD k [])).getD t 0).toNat 0 (seen ++ [(nextB (bs.getD k [])).getD t 0]) = false) → askB bs r k i seen = false) := Lib.hid askB_none
  clear hcc hcell0 hBC hlc hkb
  generalize askB bs r k i seen = RR at *
  generalize hbk : bs.getD k [] = bk at *
  clear hbk
  go_enter Tryd.func23, Tryd.ntmps23
  go_wp2_with fail
  go_loopw [2] (fun m wr => ∃ q : Nat, q ≤ bk.length ∧ m = .int .i64 q ∧ ABox w regs (some ⟨b, o, none⟩) n cap wr ∧ useA r (bk.drop q) = useA r (bk.drop i) ∧ thruA r (bk.drop q) = thruA r (bk.drop i)) (fun m _ => bk.length - (intOf m).toNat)
  case atStart => exact ⟨i, hi, rfl, HB0.out, rfl, rfl⟩
  case round =>
    obtain ⟨q, hq, rfl, hb, hu, ht⟩ := hrel
    have HB := Lib.hid hb
    have HQU := Lib.hid hu
    have HQT := Lib.hid ht
    clear hb hu ht g1 hcell
    by_cases hlt : q < bk.length
    · obtain ⟨b2, o2, hA2, hc2⟩ := HROW.out.2.2 (by omega)
      obtain ⟨A5, c5, A6, c6, A7, c7, e0, e1, e2, e3, e4, e5, e6, e7, r5, r6, r7, hI5, hI6, hI7⟩ := hc2 q hlt
      have HCELL : Hid (∀ W, Below w.heap.size w W → ∀ (j : Nat) (u : Value), (insV (bk.getD q z47) A5 c5 A6 c6 A7 c7)[j]? = some u → W.cell? ⟨b2, o2 + q * 8 + j, none⟩ = some u) := Lib.hid (fun W hW j u hu => by
        have hj : j < 8 := (Array.getElem?_eq_some_iff.1 hu).1
        rcases (by omega : j = 0 ∨ j = 1 ∨ j = 2 ∨ j = 3 ∨ j = 4 ∨ j = 5 ∨ j = 6 ∨ j = 7) with h | h | h | h | h | h | h | h <;> subst h <;> (injection hu with hu; subst hu; refine pw_cell_below hW ?_; assumption))
      have HIX := Lib.hid hI5
      have hx := HX.out (bk.getD q z47) (by rw [List.getD_eq_getElem?_getD, List.getElem?_eq_getElem hlt]; exact List.getElem_mem hlt)
      have HUSE := Lib.hid (fun W (hW : Below w.heap.size w W) => refUses_any (bk.getD q z47) A5 c5 A6 c6 A7 c7 W (hI5.below hW) r5 hx.1)
      have HSET := Lib.hid (fun W => refSets_any (bk.getD q z47) A5 c5 A6 c6 A7 c7 W)
      have HUq := Lib.hid (HU.out q hlt)
      have HTq := Lib.hid (HT.out q hlt)
      have hul := usesF_len (bk.getD q z47)
      have hD : setsB (bk.getD q z47).f0 = true → setsD (bk.getD q z47).f0 (bk.getD q z47).f1 = (bk.getD q z47).f1 := fun e => by unfold setsD; rw [e]; rfl
      have HD := Lib.hid hD
      clear hc2 e0 e1 e2 e3 e4 e5 e6 e7 r5 r6 r7 hI5 hI6 hI7 hD
      unfold insV at HCELL HUSE HSET
      generalize bk.getD q z47 = x at *
      have i0 := HCELL.out wr HB.out.1 0 _ rfl
      have i1 := HCELL.out wr HB.out.1 1 _ rfl
      have i2 := HCELL.out wr HB.out.1 2 _ rfl
      have i3 := HCELL.out wr HB.out.1 3 _ rfl
      have i4 := HCELL.out wr HB.out.1 4 _ rfl
      have i5 := HCELL.out wr HB.out.1 5 _ rfl
      have i6 := HCELL.out wr HB.out.1 6 _ rfl
      have i7 := HCELL.out wr HB.out.1 7 _ rfl
      subst hA2
      simp only [Nat.add_zero] at i0
      go_wp2_with fail
      refine (HUSE.out _ HB.out.1).mono ?_
      rintro e w1 ⟨v1, rfl, ho1, hb1⟩
      obtain ⟨A1, c1, rfl, hc1, hi1, _⟩ := isI_of_own ho1
      have HB1 := Lib.hid (HB.out.below hb1)
      have HHAS := Lib.hid (refHas_any A1 c1 (usesF x) r w1 hi1 hc1 (by omega))
      clear ho1 hi1 hb1 i0 i1 i2 i3 i4 i5 i6 i7
      go_wp2_with fail
      by_cases hm : r ∈ usesF x
      · have hH := HHAS.out
        rw [show decide (r ∈ usesF x) = true from decide_eq_true hm] at hH
        have HR : Hid (RR = true) := Lib.hid (HA1.out (by rw [← HQU.out, HUq.out, if_pos hm]))
        clear hm HUq HTq HHAS
        refine hH.mono ?_
        rintro e w2 ⟨rfl, hb2⟩
        have HB2 := Lib.hid (HB1.out.below hb2)
        clear hH hb2
        go_wp2
        go_ret
        exact ⟨ret_bool HR.out.symm, HB2.out.1⟩
      · have hH := HHAS.out
        rw [show decide (r ∈ usesF x) = false from decide_eq_false hm] at hH
        rw [if_neg hm] at HUq HTq
        clear hm HHAS
        refine hH.mono ?_
        rintro e w2 ⟨rfl, hb2⟩
        have HB2 := Lib.hid (HB1.out.below hb2)
        clear hH hb2
        have i0 := HCELL.out w2 HB2.out.1 0 _ rfl
        have i1 := HCELL.out w2 HB2.out.1 1 _ rfl
        have i2 := HCELL.out w2 HB2.out.1 2 _ rfl
        have i3 := HCELL.out w2 HB2.out.1 3 _ rfl
        have i4 := HCELL.out w2 HB2.out.1 4 _ rfl
        have i5 := HCELL.out w2 HB2.out.1 5 _ rfl
        have i6 := HCELL.out w2 HB2.out.1 6 _ rfl
        have i7 := HCELL.out w2 HB2.out.1 7 _ rfl
        simp only [Nat.add_zero] at i0
        go_wp2_with fail
        refine (HSET.out w2).mono ?_
        rintro e w3 ⟨rfl, hb3⟩
        have HB3 := Lib.hid (HB2.out.below hb3)
        clear hb3 i0 i1 i2 i3 i4 i5 i6 i7
        cases hst : setsB x.f0 with
        | true =>
          have hd := HD.out hst
          by_cases hr : x.f1 = r
          · have HR : Hid (RR = false) := Lib.hid (HA2.out (by rw [← HQU.out, HUq.out, if_pos ⟨hst, hr⟩]) (by rw [← HQT.out, HTq.out, if_pos ⟨hst, hr⟩]))
            rw [hd, hr]
            have hrr : (r == r) = true := by simp
            clear hr HUq HTq HSET HUSE
            go_wp2
            go_ret
            exact ⟨ret_bool HR.out.symm, HB3.out.1⟩
          · rw [if_neg (fun h => hr h.2)] at HUq HTq
            rw [hd]
            generalize x.f1 = d at *
            have hrr : (d == r) = false := by simpa using hr
            have HR : Hid (useA r (bk.drop (q + 1)) = useA r (bk.drop i) ∧ thruA r (bk.drop (q + 1)) = thruA r (bk.drop i)) := Lib.hid ⟨by rw [← HUq.out, HQU.out], by rw [← HTq.out, HQT.out]⟩
            clear HUq HTq HSET HUSE hd
            go_wp2
            go_roundw
            case rel => exact ⟨q + 1, by omega, by go_num, HB3.out, HR.out.1, HR.out.2⟩
            case measure => simp [intOf]; omega
        | false =>
          rw [if_neg (fun h => by rw [hst] at h; cases h.1)] at HUq HTq
          have HR : Hid (useA r (bk.drop (q + 1)) = useA r (bk.drop i) ∧ thruA r (bk.drop (q + 1)) = thruA r (bk.drop i)) := Lib.hid ⟨by rw [← HUq.out, HQU.out], by rw [← HTq.out, HQT.out]⟩
          clear HUq HTq HSET HUSE
          go_wp2
          go_roundw
          case rel => exact ⟨q + 1, by omega, by go_num, HB3.out, HR.out.1, HR.out.2⟩
          case measure => simp [intOf]; omega
    · have hqb : q = bk.length := by omega
      have HU0 : Hid (useA r (bk.drop i) = false) := Lib.hid (by rw [← HQU.out, hqb]; exact HN0.out.1)
      have HT0 : Hid (thruA r (bk.drop i) = true) := Lib.hid (by rw [← HQT.out, hqb]; exact HN0.out.2)
      have HNX := Lib.hid (refNext_any A' bk.length c' bk wr (rows_of_C (Kd.C_below HBC.out HB.out.1)) (fun x hx => by have := HX.out x hx; omega))
      have HYES : Hid (∀ j, j ∈ nextB bk → j ∉ seen → askB bs r j.toNat 0 (seen ++ [j]) = true → RR = true) := Lib.hid (fun j a b c => HA3.out j HT0.out a b c)
      have HNOT := Lib.hid (HA4.out HU0.out)
      clear HA1 HA2 HA3 HA4 HU HT HN0 HQU HQT hqb
      go_wp2_with fail
      refine HNX.out.mono ?_
      rintro e w2 ⟨v8, rfl, hv8, hb2⟩
      obtain ⟨A8, c8, rfl, hc8, hi8, _⟩ := hv8
      have HI8 := Lib.hid hi8
      have HB2 := Lib.hid (HB.out.below hb2)
      have HV2 := Lib.hid (HV.out.below HB2.out.1)
      have hm8 := hi8.2.1
      obtain ⟨Av, cv, ev, hcv, hiv, _⟩ := HV2.out
      subst ev
      have HIV := Lib.hid hiv
      clear hi8 hb2 HNX hiv
      generalize nextB bk = us at *
      go_wp2_with fail
      go_loopw [53] (fun m w3 => ∃ t : Nat, t ≤ us.length ∧ m = .int .i64 t ∧ Below w2.heap.size w2 w3 ∧ ∀ t', t' < t → us.getD t' 0 ∈ seen ∨ askB bs r (us.getD t' 0).toNat 0 (seen ++ [us.getD t' 0]) = false) (fun m _ => us.length - (intOf m).toNat)
      case atStart => exact ⟨0, Nat.zero_le _, rfl, Below.refl _ _, fun t' h => by omega⟩
      case round =>
        obtain ⟨t, ht, rfl, hb3, hall⟩ := hrel
        have HB3 := Lib.hid hb3
        have HAL := Lib.hid hall
        have HBX := Lib.hid (HB2.out.below hb3)
        clear hb3 hall
        by_cases hlt2 : t < us.length
        · obtain ⟨b8, o8, hA8, hc9⟩ := HI8.out.2.2 (by omega)
          subst hA8
          have c8t := pw_cell_below HB3.out (hc9 t hlt2)
          have hmem : us.getD t 0 ∈ us := by rw [List.getD_eq_getElem?_getD, List.getElem?_eq_getElem hlt2]; exact List.getElem_mem hlt2
          have hy := HUR.out _ hmem
          have HNX2 : Hid ((us.getD t 0 ∈ seen ∨ askB bs r (us.getD t 0).toNat 0 (seen ++ [us.getD t 0]) = false) → ∀ t', t' < t + 1 → us.getD t' 0 ∈ seen ∨ askB bs r (us.getD t' 0).toNat 0 (seen ++ [us.getD t' 0]) = false) := Lib.hid (fun h t' ht' => by
            by_cases e : t' = t
            · subst e; exact h
            · exact HAL.out t' (by omega))
          have HYS := Lib.hid (HYES.out (us.getD t 0) hmem)
          have HHAS := Lib.hid (refHas_any Av cv seen (us.getD t 0) wr (HIV.out.below HB3.out) hcv (by omega))
          clear hc9 hmem
          generalize us.getD t 0 = y at *
          by_cases hs : y ∈ seen
          · have hH := HHAS.out
            rw [show decide (y ∈ seen) = true from decide_eq_true hs] at hH
            have HN3 := Lib.hid (HNX2.out (.inl hs))
            clear hs HHAS HYS HNX2
            go_wp2_with fail
            refine hH.mono ?_
            rintro e w4 ⟨rfl, hb4⟩
            have HB4 := Lib.hid (below_then HB3.out HB3.out.size hb4)
            clear hb4 hH
            go_wp2
            go_roundw
            case rel => exact ⟨t + 1, by omega, by go_num, HB4.out, HN3.out⟩
            case measure => simp [intOf]; omega
          · have hH := HHAS.out
            rw [show decide (y ∈ seen) = false from decide_eq_false hs] at hH
            have HRC := Lib.hid (HREC.out y hy.1 hy.2 hs)
            have HYS2 := Lib.hid (HYS.out hs)
            clear hs HHAS HYS
            go_wp2_with fail
            refine hH.mono ?_
            rintro e w4 ⟨rfl, hb4⟩
            have HB4 := Lib.hid (below_then HB3.out HB3.out.size hb4)
            have HBX4 := Lib.hid (HBX.out.below hb4)
            have c8u := pw_cell_below hb4 c8t
            have hb8l : b8 < w4.heap.size := by have := World.block_lt_of_cell? _ _ c8u; simpa using this
            have HRD := Lib.hid (reads_of_ints (HIV.out.below HB4.out))
            have hl3 : seen.length ≤ 65536 := by omega
            clear hb4 hH c8t
            go_wp2_with (at_builtin; first | (refine print_append_row (w0 := w4) w4.heap.size rfl _ _ 33 3 .i64 8 rfl Tryd.underlying33 info3 (by decide) (.slice none 0 0) [] seen Av seen.length cv rfl rfl (own_nil _ _ _ _) HRD.out (Below.refl _ _) (Nat.le_refl _) (by simp; omega) ?_; intro v5 w5 ho5 hb5 _ _; rw [List.nil_append] at ho5; have hsz5 := hb5.size; have c8v := pw_cell_below hb5 c8u; have hb8m : b8 < w5.heap.size := (by omega)) | (refine print_append_num (w0 := w4) w4.heap.size rfl _ _ 33 3 .i64 8 rfl Tryd.underlying33 info3 (by decide) v5 seen y rfl rfl ho5 hb5 hsz5 (by omega) ?_; intro v6 w6 ho6 hb6 _ _))
            have c8w := pw_cell_below hb6 c8u
            have HBX6 := Lib.hid (HBX4.out.below hb6)
            have HB6 := Lib.hid (below_then HB4.out HB4.out.size hb6)
            have HI6 := Lib.hid (isI_of_own ho6)
            have g0 : w6.cell? ⟨w.heap.size, 0, none⟩ = some (.int .i64 regs) := by rw [blk_cell HBX6.out.2]; rfl
            have g1 : w6.cell? ⟨w.heap.size, 1, none⟩ = some (.slice (some ⟨b, o, none⟩) n cap) := by rw [blk_cell HBX6.out.2]; rfl
            clear ho5 hb5 ho6 hb6 c8u c8v hsz5 hb8m
            obtain ⟨y, rfl⟩ := Int.eq_ofNat_of_zero_le hy.1
            simp only [Int.toNat_natCast] at HYS2 HNX2
            have HCALL := Lib.hid (fun W (hW : Below w6.heap.size w6 W) => HRC.out y 0 v6 W (by omega) (Nat.zero_le _) (Kd.C_below HC.out (below_then HBX6.out.1 HBX6.out.1.size hW)) (HI6.out.below hW))
            rw [show ((0 : Nat) : Int) = 0 from rfl] at HCALL
            clear HRC
            cases hans : askB bs r y 0 (seen ++ [(y : Int)]) with
            | true =>
              have HR := Lib.hid (HYS2.out hans)
              rw [hans] at HCALL
              clear hans HNX2 HYS2
              go_wp2
              refine wp_region_ext_lit (by kernel_rfl) (by kernel_rfl) ?_
              repeat ((with_reducible refine wpQuiet_step (fun K hK => ?_)); go_simp; first | ((with_reducible refine hK _ ?_); clear hK K) | (rw [if_neg (fun h => by cases h)]; (with_reducible refine hK _ ?_); clear hK K) | ((with_reducible apply Exists.intro); (with_reducible refine ⟨fun _ => ?_, hK _ ?_⟩); ((go_at_call 23; refine (HCALL.out _ ext_below).mono ?_; rintro e w7 ⟨rfl, hb7⟩; exact ⟨rfl, ext_in hb7⟩)); clear hK K))
              with_reducible refine wpQuiet_nil ?_
              intro w1 hw'
              have hb1 := ext_ex hw'
              clear hw'
              go_wp2
              go_ret
              exact ⟨ret_bool HR.out.symm, (HBX6.out.below hb1).1⟩
            | false =>
              have HN3 := Lib.hid (HNX2.out (.inr hans))
              rw [hans] at HCALL
              clear hans HNX2 HYS2
              go_wp2
              refine wp_region_ext_lit (by kernel_rfl) (by kernel_rfl) ?_
              repeat ((with_reducible refine wpQuiet_step (fun K hK => ?_)); go_simp; first | ((with_reducible refine hK _ ?_); clear hK K) | (rw [if_neg (fun h => by cases h)]; (with_reducible refine hK _ ?_); clear hK K) | ((with_reducible apply Exists.intro); (with_reducible refine ⟨fun _ => ?_, hK _ ?_⟩); ((go_at_call 23; refine (HCALL.out _ ext_below).mono ?_; rintro e w7 ⟨rfl, hb7⟩; exact ⟨rfl, ext_in hb7⟩)); clear hK K))
              with_reducible refine wpQuiet_nil ?_
              intro w1 hw'
              have hb1 := ext_ex hw'
              clear hw'
              go_wp2
              go_roundw
              case rel => exact ⟨t + 1, by omega, by go_num, below_then HB6.out HB6.out.size hb1, HN3.out⟩
              case measure => simp [intOf]; omega
        · have htu : t = us.length := by omega
          have HR : Hid (RR = false) := Lib.hid (HNOT.out (fun t' ht' => HAL.out t' (by omega)))
          subst htu
          clear hlt2 ht
          go_wp2
          go_ret
          exact ⟨ret_bool HR.out.symm, HBX.out.1⟩
/-- The law's asked, whatever has been begun. -/
theorem asked_any (bs : List (List S47)) (regs : Int) (A : Option Addr) (n cap : Nat) (r : Int) (hl : bs.length = n) (hok : FunOk bs) (hn : n ≤ 65536) (hls : ∀ k, k < bs.length → ∀ x ∈ bs.getD k [], x.f5.length ≤ 900000 ∧ x.f7.length ≤ 900000) :
    ∀ (d : Nat) (seen : List Int), SeenOk n seen → n ≤ d + seen.length → AskedOk bs regs A n cap r seen
  | 0, seen, hs, hd => asked_step bs regs A n cap r seen hl hok hn hls hs (fun j h0 h1 hj => by
    have := (hs.next ⟨h0, h1⟩ hj).len
    simp at this
    omega)
  | d + 1, seen, hs, hd => asked_step bs regs A n cap r seen hl hok hn hls hs (fun j h0 h1 hj => asked_any bs regs A n cap r hl hok hn hls d (seen ++ [j]) (hs.next ⟨h0, h1⟩ hj) (by simp; omega))
end Go.Proofs.YtefndpejmikioaaDoor

/- Walk: the law LiveWays. Conditions: the package's table reads as the program lays it; at most 1000000 instructions, 2000000 blocks; lists not longer than 2000000. -/
namespace Go.Proofs.YtefndpejmikioaaDoor
open Go.RowKit Go.Proofs.YtefndpejmikioaaDoorW.PrintWords Go.Proofs.YtefndpejmikioaaDoor.PFlowReads
theorem isI_blk {W : World} {B : Nat} {y : Int} (h : W.heap[B]? = some (.cells #[.int .i64 y] 3 (0, 0))) : IsI W (.slice (some ⟨B, 0, none⟩) 1 1) [y] :=
  ⟨_, 1, rfl, Nat.le_refl _, ⟨rfl, by simp, fun _ => ⟨B, 0, rfl, fun j hj => by
    obtain rfl : j = 0 := by simpa using hj
    rw [blk_cell h]
    rfl⟩⟩, fun a ha _ => by cases ha; exact ⟨_, h⟩⟩
set_option maxHeartbeats 8000000 in
set_option maxRecDepth 100000 in
theorem lawLiveWays (regs : Int) (A : Option Addr) (n cap : Nat) (bs : List (List S47)) (block i r : Int) (w : World) (hS : Shapes w) (h : (Kd.slice 47 k47).C w A n bs)
    (hsum : sumTo bs bs.length ≤ 1000000) (hn : n ≤ 2000000) (hls : ∀ k, k < bs.length → ∀ x ∈ bs.getD k [], x.f5.length ≤ 2000000 ∧ x.f6.length ≤ 2000000 ∧ x.f7.length ≤ 2000000) :
    Calls Tryd.prog 5 #[.agg #[.int .i64 regs, .slice A n cap], .int .i64 block, .int .i64 i, .int .i64 r] w fun e w' => e = .returned (.bool true) ∧ Below w.heap.size w w' := by
  have hl : bs.length = n := h.1
  have b0 : Below w.heap.size w (w.alloc (.cells #[.int .i64 regs, .slice A n cap] 24)) := below_alloc (Below.refl _ _) _
  have hx0 := blk_new w (.cells #[.int .i64 regs, .slice A n cap] 24)
  have hf := few_any regs A n cap bs 60 _ (Kd.C_below h b0) hsum hn hls (by omega)
  rw [show ((60 : Nat) : Int) = 60 from rfl] at hf
  have HKN := Lib.hid (fun W (hW : Below w.heap.size w W) => knows_any W (hS.below hW))
  have HS := Lib.hid hS
  have HC := Lib.hid h
  have HB0 := Lib.hid b0
  have HX0 := Lib.hid hx0
  by_cases hfew : fewN bs ≤ 60
  · have hs := few_sum hfew
    have hsm : ∀ k, k < bs.length → ∀ x ∈ bs.getD k [], x.f5.length ≤ 487 ∧ x.f7.length ≤ 487 := fun k hk x hx => by
      have := few_lists hfew hk hx
      omega
    rw [decide_eq_true hfew] at hf
    have HF := Lib.hid hf
    have HSU := Lib.hid hs
    have HSM := Lib.hid hsm
    have HL := Lib.hid hl
    have HRF := Lib.hid (fun W (hW : Below w.heap.size w W) => refRightFun_any regs 1025 A n cap bs W (Kd.C_below HC.out hW) (by have := HSU.out.1; omega) (fun k hk x hx => by have := HSM.out k hk x hx; omega))
    clear hf hs hsm hfew hsum hls hS h b0 hx0 hl
    by_cases h7 : n ≤ 7
    · have d7 : decide ((7 : Int) < (n : Int)) = false := decide_eq_false (by omega)
      by_cases hgood : rightF regs bs 1025 = 0
      · have HG := Lib.hid hgood
        rw [hgood] at HRF
        clear hgood
        by_cases h1 : block < 0
        · have e1 : decide (block < 0) = true := decide_eq_true h1
          go_enter Tryd.func5, Tryd.ntmps5
          go_wp2_with fail
          refine HF.out.mono ?_
          rintro e w1 ⟨rfl, hb1⟩
          have HB1 := Lib.hid (below_then HB0.out HB0.out.size hb1)
          have HX1 := Lib.hid (blk_below HX0.out hb1)
          have g0 : w1.cell? ⟨w.heap.size, 0, none⟩ = some (.int .i64 regs) := by rw [blk_cell HX1.out]; rfl
          have g1 : w1.cell? ⟨w.heap.size, 1, none⟩ = some (.slice A n cap) := by rw [blk_cell HX1.out]; rfl
          clear hb1 HF
          go_wp2_with fail
          refine (HRF.out w1 HB1.out).mono ?_
          rintro e w2 ⟨rfl, hb2⟩
          have HB2 := Lib.hid (below_then HB1.out HB1.out.size hb2)
          have HX2 := Lib.hid (blk_below HX1.out hb2)
          have q0 : w2.cell? ⟨w.heap.size, 0, none⟩ = some (.int .i64 regs) := by rw [blk_cell HX2.out]; rfl
          have q1 : w2.cell? ⟨w.heap.size, 1, none⟩ = some (.slice A n cap) := by rw [blk_cell HX2.out]; rfl
          clear hb2 g0 g1 HRF
          go_wp2_with fail
          refine (HKN.out w2 HB2.out).mono ?_
          rintro e w6 ⟨rfl, hb6⟩
          have HB6 := Lib.hid (below_then HB2.out HB2.out.size hb6)
          clear hb6
          go_wp2
          go_ret
          exact ⟨by simp, HB6.out⟩
        · have e1 : decide (block < 0) = false := decide_eq_false h1
          by_cases h2 : (n : Int) ≤ block
          · have e2 : decide ((n : Int) ≤ block) = true := decide_eq_true h2
            go_enter Tryd.func5, Tryd.ntmps5
            go_wp2_with fail
            refine HF.out.mono ?_
            rintro e w1 ⟨rfl, hb1⟩
            have HB1 := Lib.hid (below_then HB0.out HB0.out.size hb1)
            have HX1 := Lib.hid (blk_below HX0.out hb1)
            have g0 : w1.cell? ⟨w.heap.size, 0, none⟩ = some (.int .i64 regs) := by rw [blk_cell HX1.out]; rfl
            have g1 : w1.cell? ⟨w.heap.size, 1, none⟩ = some (.slice A n cap) := by rw [blk_cell HX1.out]; rfl
            clear hb1 HF
            go_wp2_with fail
            refine (HRF.out w1 HB1.out).mono ?_
            rintro e w2 ⟨rfl, hb2⟩
            have HB2 := Lib.hid (below_then HB1.out HB1.out.size hb2)
            have HX2 := Lib.hid (blk_below HX1.out hb2)
            have q0 : w2.cell? ⟨w.heap.size, 0, none⟩ = some (.int .i64 regs) := by rw [blk_cell HX2.out]; rfl
            have q1 : w2.cell? ⟨w.heap.size, 1, none⟩ = some (.slice A n cap) := by rw [blk_cell HX2.out]; rfl
            clear hb2 g0 g1 HRF
            go_wp2_with fail
            refine (HKN.out w2 HB2.out).mono ?_
            rintro e w6 ⟨rfl, hb6⟩
            have HB6 := Lib.hid (below_then HB2.out HB2.out.size hb6)
            clear hb6
            go_wp2
            go_ret
            exact ⟨by simp, HB6.out⟩
          · have e2 : decide ((n : Int) ≤ block) = false := decide_eq_false h2
            by_cases h3 : i < 0
            · have e3 : decide (i < 0) = true := decide_eq_true h3
              go_enter Tryd.func5, Tryd.ntmps5
              go_wp2_with fail
              refine HF.out.mono ?_
              rintro e w1 ⟨rfl, hb1⟩
              have HB1 := Lib.hid (below_then HB0.out HB0.out.size hb1)
              have HX1 := Lib.hid (blk_below HX0.out hb1)
              have g0 : w1.cell? ⟨w.heap.size, 0, none⟩ = some (.int .i64 regs) := by rw [blk_cell HX1.out]; rfl
              have g1 : w1.cell? ⟨w.heap.size, 1, none⟩ = some (.slice A n cap) := by rw [blk_cell HX1.out]; rfl
              clear hb1 HF
              go_wp2_with fail
              refine (HRF.out w1 HB1.out).mono ?_
              rintro e w2 ⟨rfl, hb2⟩
              have HB2 := Lib.hid (below_then HB1.out HB1.out.size hb2)
              have HX2 := Lib.hid (blk_below HX1.out hb2)
              have q0 : w2.cell? ⟨w.heap.size, 0, none⟩ = some (.int .i64 regs) := by rw [blk_cell HX2.out]; rfl
              have q1 : w2.cell? ⟨w.heap.size, 1, none⟩ = some (.slice A n cap) := by rw [blk_cell HX2.out]; rfl
              clear hb2 g0 g1 HRF
              go_wp2_with fail
              refine (HKN.out w2 HB2.out).mono ?_
              rintro e w6 ⟨rfl, hb6⟩
              have HB6 := Lib.hid (below_then HB2.out HB2.out.size hb6)
              clear hb6
              go_wp2
              go_ret
              exact ⟨by simp, HB6.out⟩
            · have e3 : decide (i < 0) = false := decide_eq_false h3
              obtain ⟨k, rfl⟩ := Int.eq_ofNat_of_zero_le (show 0 ≤ block by omega)
              obtain ⟨m, rfl⟩ := Int.eq_ofNat_of_zero_le (show 0 ≤ i by omega)
              have hk : k < n := by omega
              have e5 : ¬ n ≤ k := by omega
              obtain ⟨b, o, hA, hcc⟩ := (blocks_of_C HC.out).2.2 (by omega)
              obtain ⟨A', c', hcell0, hlc, hBC⟩ := hcc k hk
              subst hA
              have HC0 := Lib.hid hcell0
              have HBC := Lib.hid hBC
              clear hcc hcell0 hlc hBC
              by_cases h4 : (bs.getD k []).length ≤ m
              · have e4 : decide (((bs.getD k []).length : Int) ≤ (m : Int)) = true := decide_eq_true (by omega)
                generalize (bs.getD k []).length = lk at *
                go_enter Tryd.func5, Tryd.ntmps5
                go_wp2_with fail
                refine HF.out.mono ?_
                rintro e w1 ⟨rfl, hb1⟩
                have HB1 := Lib.hid (below_then HB0.out HB0.out.size hb1)
                have HX1 := Lib.hid (blk_below HX0.out hb1)
                have g0 : w1.cell? ⟨w.heap.size, 0, none⟩ = some (.int .i64 regs) := by rw [blk_cell HX1.out]; rfl
                have g1 : w1.cell? ⟨w.heap.size, 1, none⟩ = some (.slice (some ⟨b, o, none⟩) n cap) := by rw [blk_cell HX1.out]; rfl
                clear hb1 HF
                go_wp2_with fail
                refine (HRF.out w1 HB1.out).mono ?_
                rintro e w2 ⟨rfl, hb2⟩
                have HB2 := Lib.hid (below_then HB1.out HB1.out.size hb2)
                have HX2 := Lib.hid (blk_below HX1.out hb2)
                have q0 : w2.cell? ⟨w.heap.size, 0, none⟩ = some (.int .i64 regs) := by rw [blk_cell HX2.out]; rfl
                have q1 : w2.cell? ⟨w.heap.size, 1, none⟩ = some (.slice (some ⟨b, o, none⟩) n cap) := by rw [blk_cell HX2.out]; rfl
                clear hb2 g0 g1 HRF
                have hcell := pw_cell_below HB2.out HC0.out
                go_wp2_with fail
                refine (HKN.out w2 HB2.out).mono ?_
                rintro e w6 ⟨rfl, hb6⟩
                have HB6 := Lib.hid (below_then HB2.out HB2.out.size hb6)
                clear hb6
                go_wp2
                go_ret
                exact ⟨by simp, HB6.out⟩
              · have e4 : decide (((bs.getD k []).length : Int) ≤ (m : Int)) = false := decide_eq_false (by omega)
                generalize hlkk : (bs.getD k []).length = lk at *
                have HLKK := Lib.hid hlkk
                clear hlkk
                go_enter Tryd.func5, Tryd.ntmps5
                go_wp2_with fail
                refine HF.out.mono ?_
                rintro e w1 ⟨rfl, hb1⟩
                have HB1 := Lib.hid (below_then HB0.out HB0.out.size hb1)
                have HX1 := Lib.hid (blk_below HX0.out hb1)
                have g0 : w1.cell? ⟨w.heap.size, 0, none⟩ = some (.int .i64 regs) := by rw [blk_cell HX1.out]; rfl
                have g1 : w1.cell? ⟨w.heap.size, 1, none⟩ = some (.slice (some ⟨b, o, none⟩) n cap) := by rw [blk_cell HX1.out]; rfl
                clear hb1 HF
                go_wp2_with fail
                refine (HRF.out w1 HB1.out).mono ?_
                rintro e w2 ⟨rfl, hb2⟩
                have HB2 := Lib.hid (below_then HB1.out HB1.out.size hb2)
                have HX2 := Lib.hid (blk_below HX1.out hb2)
                have q0 : w2.cell? ⟨w.heap.size, 0, none⟩ = some (.int .i64 regs) := by rw [blk_cell HX2.out]; rfl
                have q1 : w2.cell? ⟨w.heap.size, 1, none⟩ = some (.slice (some ⟨b, o, none⟩) n cap) := by rw [blk_cell HX2.out]; rfl
                clear hb2 g0 g1 HRF
                have hcell := pw_cell_below HB2.out HC0.out
                have hkb : k < bs.length := by rw [HL.out]; exact hk
                have hmb : m < (bs.getD k []).length := by rw [HLKK.out]; omega
                have hn3 : n ≤ 7 := h7
                have HOK := Lib.hid (funOk_of_right HG.out (fun k hk x hx => by have := HSM.out k hk x hx; omega))
                have HBE := Lib.hid (liveBehind_good regs (some ⟨b, o, none⟩) n cap bs k m w2 (HS.out.below HB2.out) (Kd.C_below HC.out HB2.out) (by have := HSU.out.1; omega) HG.out (fun k hk x hx => by have := HSM.out k hk x hx; omega) hkb hmb)
                have hlk : lk ≤ 9223372036854775807 := HBC.out.2.1
                have hwm : IntKind.i64.wrap ((m : Int) + 1) = (m : Int) + 1 := IntWalk.i64_in _ (by omega)
                go_wp2_with fail
                refine HBE.out.mono ?_
                rintro e w3 ⟨v3, l3, rfl, hv3, hu3, hl3, hb3⟩
                have HV3 := Lib.hid hv3
                have HL3 := Lib.hid (And.intro hu3 hl3)
                have HB3 := Lib.hid (below_then HB2.out HB2.out.size hb3)
                have HX3 := Lib.hid (blk_below HX2.out hb3)
                have k0 : w3.cell? ⟨w.heap.size, 0, none⟩ = some (.int .i64 regs) := by rw [blk_cell HX3.out]; rfl
                have k1 : w3.cell? ⟨w.heap.size, 1, none⟩ = some (.slice (some ⟨b, o, none⟩) n cap) := by rw [blk_cell HX3.out]; rfl
                have HOF := Lib.hid (of_good regs (some ⟨b, o, none⟩) n cap bs w3 (HS.out.below HB3.out) (Kd.C_below HC.out HB3.out) (by have := HSU.out.1; omega) HG.out (fun k hk x hx => by have := HSM.out k hk x hx; omega))
                clear hv3 hu3 hl3 hb3 q0 q1 HBE hcell
                go_wp2_with fail
                refine HOF.out.mono ?_
                rintro e w4 ⟨base, vi, vo, li, lo, rfl, hbase, hti, hto, hlv, hb4⟩
                obtain ⟨gi, ci, rfl, hci, hri⟩ := rtab_of_tab hti (by omega)
                obtain ⟨go, co, rfl, hco, hro⟩ := rtab_of_tab hto (by omega)
                have HRI := Lib.hid hri
                have HRO := Lib.hid hro
                have HLV := Lib.hid hlv
                have HV4 := Lib.hid (HV3.out.below hb4)
                have HB4 := Lib.hid (below_then HB3.out HB3.out.size hb4)
                have HX4 := Lib.hid (blk_below HX3.out hb4)
                have p0 : w4.cell? ⟨w.heap.size, 0, none⟩ = some (.int .i64 regs) := by rw [blk_cell HX4.out]; rfl
                have p1 : w4.cell? ⟨w.heap.size, 1, none⟩ = some (.slice (some ⟨b, o, none⟩) n cap) := by rw [blk_cell HX4.out]; rfl
                have hcell4 := pw_cell_below HB4.out HC0.out
                have hnn : ((n : Int) == (n : Int)) = true := by simp
                have HNX := Lib.hid (refNext_any A' lk c' (bs.getD k []) w4 (rows_of_C (Kd.C_below HBC.out HB4.out)) (fun x hx => by have := HSM.out k hkb x hx; omega))
                have HUR : Hid (∀ j ∈ nextB (bs.getD k []), 0 ≤ j ∧ j < n) := Lib.hid (fun j hj => by have := HOK.out.next k hkb j hj; rw [HL.out] at this; exact this)
                have HULN : Hid ((nextB (bs.getD k [])).length ≤ n) := Lib.hid (nextB_len _ _ HUR.out)
                have HSM2 : Hid (∀ j, j < n → ∀ p ∈ li j, SmallI p) := Lib.hid (fun j hj p hp => lv_small HOK.out (((HLV.out j hj).2.2 p).1.1 hp))
                have HSL : Hid (∀ t, (outR li ((nextB (bs.getD k [])).take t)).length ≤ 65536) := Lib.hid (fun t => small_len (outR_up _ _) (fun p hp => by
                  obtain ⟨j, hj, hp'⟩ := (mem_outR _ _ _).1 hp
                  have := HUR.out j (List.mem_of_mem_take hj)
                  exact HSM2.out j.toNat (by omega) p hp'))
                have HLI : Hid (∀ j, j < n → (li j).length ≤ 65536) := Lib.hid (fun j hj => small_len (HLV.out j hj).1 (HSM2.out j hj))
                have HALL : Hid (outR li ((nextB (bs.getD k [])).take (nextB (bs.getD k [])).length) = lo k) := Lib.hid (by
                  rw [List.take_length]
                  refine up_unique (outR_up _ _) (HLV.out k hk).2.1 (fun p => ?_)
                  rw [mem_outR, ((HLV.out k hk).2.2 p).2]
                  constructor
                  · rintro ⟨j, hj, hp⟩
                    have := HUR.out j hj
                    exact ⟨j, hj, ((HLV.out j.toNat (by omega)).2.2 p).1.1 hp⟩
                  · rintro ⟨j, hj, hp⟩
                    have := HUR.out j hj
                    exact ⟨j, hj, ((HLV.out j.toNat (by omega)).2.2 p).1.2 hp⟩)
                have HHEAD : Hid (askB bs r k 0 [(k : Int)] = decide (r ∈ li k)) := Lib.hid (by
                  unfold askB
                  rw [decide_eq_decide, ask_head HOK.out.next hkb, ((HLV.out k hk).2.2 r).1])
                have HAT : Hid (askB bs r k (m + 1) [] = decide (r ∈ l3)) := Lib.hid (by
                  unfold askB
                  rw [decide_eq_decide, ask_at HOK.out.next hkb, HL3.out.2 r])
                have HASK := Lib.hid (fun seen hs => asked_any bs regs (some ⟨b, o, none⟩) n cap r HL.out HOK.out (by omega) (fun k hk x hx => by have := HSM.out k hk x hx; omega) n seen hs (by omega))
                have hl3 : l3.length ≤ 65536 := small_len HL3.out.1 (fun p hp => propA_small HOK.out hkb (fun p ⟨q, _, hq⟩ => lv_small HOK.out hq) _ (fun x hx => List.mem_of_mem_drop hx) p ((HL3.out.2 p).1 hp))
                clear hti hto hlv hb4 hri hro HOF k0 k1 HV3
                generalize hbk : bs.getD k [] = bk at *
                go_wp2_with fail
                refine HNX.out.mono ?_
                rintro e w5 ⟨v8, rfl, hv8, hb5⟩
                obtain ⟨A8, c8, rfl, hc8, hi8, _⟩ := hv8
                have HI8 := Lib.hid hi8
                have HB5 := Lib.hid (below_then HB4.out HB4.out.size hb5)
                have HRI5 := Lib.hid (HRI.out.below hb5)
                have HRO5 := Lib.hid (HRO.out.below hb5)
                have HV5 := Lib.hid (HV4.out.below hb5)
                have HX5 := Lib.hid (blk_below HX4.out hb5)
                have hm8 := hi8.2.1
                clear hi8 hb5 HNX hcell4 p0 p1 HRI HRO HV4
                have HS0 : Hid (outR li ((nextB bk).take 0) = []) := Lib.hid rfl
                have HSS : Hid (∀ t, t < (nextB bk).length → outR li ((nextB bk).take (t + 1)) = rise (outR li ((nextB bk).take t) ++ li ((nextB bk).getD t 0).toNat)) := Lib.hid (fun t ht => outR_take li _ ht)
                have HSU2 : Hid (∀ t, (outR li ((nextB bk).take t)).Pairwise (· < ·)) := Lib.hid (fun t => outR_up _ _)
                generalize nextB bk = us at *
                generalize hSd : (fun t => outR li (us.take t)) = S at *
                have HSD : Hid (∀ t, outR li (us.take t) = S t) := Lib.hid (fun t => congrFun hSd t)
                clear hSd
                go_wp2_with fail
                go_loopw [15, 100] (fun a q w3 => ∃ t : Nat, t ≤ us.length ∧ q = .int .i64 t ∧ IsI w3 a (S t) ∧ Below w5.heap.size w5 w3) (fun _ q _ => us.length - (intOf q).toNat)
                case atStart => exact ⟨0, Nat.zero_le _, rfl, by rw [← HSD.out, HS0.out]; exact isI_nil _, Below.refl _ _⟩
                case round =>
                  obtain ⟨t, ht, rfl, ho, hb6⟩ := hrel
                  have HO := Lib.hid ho
                  have HB6 := Lib.hid hb6
                  have HTI6 := Lib.hid (HRI5.out.below hb6)
                  have HTO6 := Lib.hid (HRO5.out.below hb6)
                  clear ho hb6
                  by_cases hlt2 : t < us.length
                  · obtain ⟨b8, o8, hA8, hc9⟩ := HI8.out.2.2 (by omega)
                    subst hA8
                    have c8t := pw_cell_below HB6.out (hc9 t hlt2)
                    have hmem : us.getD t 0 ∈ us := by rw [List.getD_eq_getElem?_getD, List.getElem?_eq_getElem hlt2]; exact List.getElem_mem hlt2
                    have hy := HUR.out _ hmem
                    have HSt : Hid (S (t + 1) = rise (S t ++ li (us.getD t 0).toNat)) := Lib.hid (by rw [← HSD.out, ← HSD.out, HSS.out t hlt2])
                    clear hc9 hmem
                    generalize us.getD t 0 = y at *
                    obtain ⟨y, rfl⟩ := Int.eq_ofNat_of_zero_le hy.1
                    have hyk : y < n := by omega
                    obtain ⟨Ay, cy, hcy, hly, hIy, _⟩ := HTI6.out.at_ hyk
                    have hgil : gi < wr.heap.size := by have := World.block_lt_of_cell? _ _ hcy; simpa using this
                    simp only [Int.toNat_natCast] at HSt
                    have HU := Lib.hid (refUnionP_any _ (S t) Ay cy (li y) wr HO.out (by rw [← HSD.out]; exact HSU2.out t) (by rw [← HSD.out]; exact Nat.le_trans (HSL.out t) (by omega)) hIy hly (by
                      have := HLI.out y hyk
                      omega))
                    rw [← HSt.out] at HU
                    clear hIy hy HSt
                    go_wp2_with fail
                    refine HU.out.mono ?_
                    rintro e w7 ⟨v7, rfl, hv7, hb7⟩
                    have HV7 := Lib.hid hv7
                    have HB7 := Lib.hid (below_then HB6.out HB6.out.size hb7)
                    clear hv7 hb7
                    go_wp2
                    go_roundw
                    case rel => exact ⟨t + 1, by omega, by go_num, HV7.out, HB7.out⟩
                    case measure => simp [intOf]; omega
                  · have htu : t = us.length := by omega
                    have HO2 : Hid (IsI wr u15 (lo k)) := Lib.hid (by rw [← HALL.out, HSD.out, ← htu]; exact HO.out)
                    have HX6 := Lib.hid (blk_below HX5.out HB6.out)
                    have HBW := Lib.hid (below_then HB5.out HB5.out.size HB6.out)
                    have HV6 := Lib.hid (HV5.out.below HB6.out)
                    obtain ⟨Ai, ci2, hcI, hdI, hII, _⟩ := HTI6.out.at_ hk
                    obtain ⟨Ao, co2, hcO, hdO, hIO, _⟩ := HTO6.out.at_ hk
                    have r0 : wr.cell? ⟨w.heap.size, 0, none⟩ = some (.int .i64 regs) := by rw [blk_cell HX6.out]; rfl
                    have r1 : wr.cell? ⟨w.heap.size, 1, none⟩ = some (.slice (some ⟨b, o, none⟩) n cap) := by rw [blk_cell HX6.out]; rfl
                    obtain ⟨A9, c9, e9, hd9, hi9, _⟩ := HO2.out
                    subst e9
                    have hlok : (lo k).length ≤ 65536 := by rw [← HALL.out]; exact HSL.out _
                    have H18 := Lib.hid (fun W (hW : Below wr.heap.size wr W) => refInts_any A9 c9 (lo k) Ao co2 (lo k) W (hi9.below hW) hd9 (hIO.below hW) hdO (by omega))
                    rw [decide_eq_true (rfl : lo k = lo k)] at H18
                    have H22 := Lib.hid (fun W (hW : Below wr.heap.size wr W) => refHas_any Ai ci2 (li k) r W (hII.below hW) hdI (by have := HLI.out k hk; omega))
                    have H23 := Lib.hid (fun W B (hW : Below wr.heap.size wr W) (hB : W.heap[B]? = some (.cells #[.int .i64 (k : Int)] 3 (0, 0))) => HASK.out [(k : Int)] ⟨by simp, fun s hs => by rw [List.mem_singleton.1 hs]; exact ⟨by omega, by omega⟩⟩ k 0 (.slice (some ⟨B, 0, none⟩) 1 1) W hk (Nat.zero_le _) (Kd.C_below HC.out (below_then HBW.out HBW.out.size hW)) (isI_blk hB))
                    rw [HHEAD.out, show ((0 : Nat) : Int) = 0 from rfl] at H23
                    have hwl : w.heap.size < wr.heap.size := blk_lt HX6.out
                    have hgil : gi < wr.heap.size := by have := World.block_lt_of_cell? _ _ hcI; simpa using this
                    have hgol : go < wr.heap.size := by have := World.block_lt_of_cell? _ _ hcO; simpa using this
                    have HMB := Lib.hid hmb
                    clear hi9 hIO hII hd9 hdO hdI HO hlt2 ht hmb
                    generalize hbh : decide (r ∈ li k) = bh at *
                    obtain ⟨A3, c3, e3', hd3, hi3, _⟩ := HV6.out
                    subst e3'
                    have H22b := Lib.hid (fun W (hW : Below wr.heap.size wr W) => refHas_any A3 c3 l3 r W (hi3.below hW) hd3 (by omega))
                    have H23b := Lib.hid (fun W (hW : Below wr.heap.size wr W) => HASK.out [] ⟨by simp, fun s hs => by cases hs⟩ k (m + 1) (.slice none 0 0) W hk (by rw [hbk]; have := HMB.out; omega) (Kd.C_below HC.out (below_then HBW.out HBW.out.size hW)) (isI_nil W))
                    rw [HAT.out, show ((m + 1 : Nat) : Int) = (m : Int) + 1 by omega] at H23b
                    have HKN2 := Lib.hid (fun W (hW : Below wr.heap.size wr W) => HKN.out W (below_then HBW.out HBW.out.size hW))
                    clear hi3 hd3
                    generalize decide (r ∈ l3) = bl at *
                    have hbb : (bh == bh) = true := by simp
                    have hll : (bl == bl) = true := by simp
                    have BD : Hid (Below wr.heap.size wr wr.drew) := Lib.hid (below_drew (Below.refl _ _))
                    go_wp2_with fail
                    have HSB : Hid (∀ W, Below wr.heap.size wr W → W.cell? ⟨gi, k, none⟩ = some (.slice Ai (li k).length ci2) ∧ W.cell? ⟨go, k, none⟩ = some (.slice Ao (lo k).length co2) ∧ W.cell? ⟨w.heap.size, 0, none⟩ = some (.int .i64 regs) ∧ W.cell? ⟨w.heap.size, 1, none⟩ = some (.slice (some ⟨b, o, none⟩) n cap)) := Lib.hid (fun W hW => ⟨pw_cell_below hW hcI, pw_cell_below hW hcO, pw_cell_below hW r0, pw_cell_below hW r1⟩)
                    go_region_held3 (fun w' => w'.cell? ⟨gi, k, none⟩ = some (.slice Ai (li k).length ci2) ∧ w'.cell? ⟨go, k, none⟩ = some (.slice Ao (lo k).length co2) ∧ w'.cell? ⟨w.heap.size, 0, none⟩ = some (.int .i64 regs) ∧ w'.cell? ⟨w.heap.size, 1, none⟩ = some (.slice (some ⟨b, o, none⟩) n cap)) (first | exact HSB.out _ BD.out | exact HSB.out _ B9 | exact HSB.out _ (B7.alloc B7.size _) | exact HSB.out _ B7 | exact HSB.out _ (B6.alloc B6.size _) | exact HSB.out _ B6) (first
                      | (go_at_call 18; refine (H18.out _ BD.out).mono ?_; rintro e w6 ⟨rfl, hb6⟩; have B6 : Below wr.heap.size wr w6 := below_then BD.out BD.out.size hb6)
                      | (go_at_call 22; refine (H22.out _ (by first | exact B6 | exact B6.alloc B6.size _)).mono ?_; rintro e w7 ⟨rfl, hb7⟩; have B7 : Below wr.heap.size wr w7 := (by first | exact below_then B6 B6.size hb7 | exact below_then (B6.alloc B6.size _) (B6.alloc B6.size _).size hb7); try have hk7 := blk_below (blk_new w6 (.cells #[.int .i64 (k : Int)] 3)) hb7)
                      | (go_at_call 23; refine (H23.out _ _ (by first | exact B7 | exact B7.alloc B7.size _) (by first | exact hk7 | exact blk_new _ _)).mono ?_; rintro e w9 ⟨rfl, hb9⟩; have B9 : Below wr.heap.size wr w9 := (by first | exact below_then B7 B7.size hb9 | exact below_then (B7.alloc B7.size _) (B7.alloc B7.size _).size hb9)))
                    all_goals
                      have n0 := pw_cell_below B9 r0
                      have n1 := pw_cell_below B9 r1
                      have s9 : w.heap.size < w9.heap.size := Nat.lt_of_lt_of_le hwl B9.size
                      have HB9 := Lib.hid B9
                      clear B6 B7 B9 hb6 hb7 hb9 HSB
                      try clear hk7
                      go_wp2
                      refine wp_region_ext_lit (by kernel_rfl) (by kernel_rfl) ?_
                      repeat ((with_reducible refine wpQuiet_step (fun K hK => ?_)); go_simp; first | ((with_reducible refine hK _ ?_); clear hK K) | (rw [if_neg (fun h => by cases h)]; (with_reducible refine hK _ ?_); clear hK K) | ((with_reducible apply Exists.intro); (with_reducible refine ⟨fun _ => ?_, hK _ ?_⟩); ((first | (go_at_call 22; refine (H22b.out _ (below_then HB9.out HB9.out.size ext_below)).mono ?_; rintro e wc ⟨rfl, hbc⟩; exact ⟨rfl, ext_in hbc⟩) | (go_at_call 23; refine (H23b.out _ (below_then HB9.out HB9.out.size ext_below)).mono ?_; rintro e wc ⟨rfl, hbc⟩; exact ⟨rfl, ext_in hbc⟩) | (go_at_call 12; refine (HKN2.out _ (below_then HB9.out HB9.out.size ext_below)).mono ?_; rintro e wc ⟨rfl, hbc⟩; exact ⟨rfl, ext_in hbc⟩))); clear hK K))
                      with_reducible refine wpQuiet_nil ?_
                      intro w1 hw'
                      have hb1 := ext_ex hw'
                      clear hw'
                      go_wp2
                      go_ret
                      exact ⟨by simp, below_then HBW.out HBW.out.size (below_then HB9.out HB9.out.size hb1)⟩
      · have HG := Lib.hid hgood
        have dg : (rightF regs bs 1025 == 0) = false := by simpa using hgood
        clear hgood
        generalize rightF regs bs 1025 = er at *
        go_enter Tryd.func5, Tryd.ntmps5
        go_wp2_with fail
        refine HF.out.mono ?_
        rintro e w1 ⟨rfl, hb1⟩
        have HB1 := Lib.hid (below_then HB0.out HB0.out.size hb1)
        have HX1 := Lib.hid (blk_below HX0.out hb1)
        have g0 : w1.cell? ⟨w.heap.size, 0, none⟩ = some (.int .i64 regs) := by rw [blk_cell HX1.out]; rfl
        have g1 : w1.cell? ⟨w.heap.size, 1, none⟩ = some (.slice A n cap) := by rw [blk_cell HX1.out]; rfl
        clear hb1 HF
        go_wp2_with fail
        refine (HRF.out w1 HB1.out).mono ?_
        rintro e w2 ⟨rfl, hb2⟩
        have HB2 := Lib.hid (below_then HB1.out HB1.out.size hb2)
        have HX2 := Lib.hid (blk_below HX1.out hb2)
        have q0 : w2.cell? ⟨w.heap.size, 0, none⟩ = some (.int .i64 regs) := by rw [blk_cell HX2.out]; rfl
        have q1 : w2.cell? ⟨w.heap.size, 1, none⟩ = some (.slice A n cap) := by rw [blk_cell HX2.out]; rfl
        clear hb2 g0 g1 HRF
        go_wp2_with fail
        refine (HKN.out w2 HB2.out).mono ?_
        rintro e w6 ⟨rfl, hb6⟩
        have HB6 := Lib.hid (below_then HB2.out HB2.out.size hb6)
        clear hb6
        go_wp2
        go_ret
        exact ⟨by simp, HB6.out⟩
    · have d7 : decide ((7 : Int) < (n : Int)) = true := decide_eq_true (by omega)
      go_enter Tryd.func5, Tryd.ntmps5
      go_wp2_with fail
      refine HF.out.mono ?_
      rintro e w1 ⟨rfl, hb1⟩
      have HB1 := Lib.hid (below_then HB0.out HB0.out.size hb1)
      have HX1 := Lib.hid (blk_below HX0.out hb1)
      have g0 : w1.cell? ⟨w.heap.size, 0, none⟩ = some (.int .i64 regs) := by rw [blk_cell HX1.out]; rfl
      have g1 : w1.cell? ⟨w.heap.size, 1, none⟩ = some (.slice A n cap) := by rw [blk_cell HX1.out]; rfl
      clear hb1 HF
      go_wp2_with fail
      refine (HKN.out w1 HB1.out).mono ?_
      rintro e w6 ⟨rfl, hb6⟩
      have HB6 := Lib.hid (below_then HB1.out HB1.out.size hb6)
      clear hb6
      go_wp2
      go_ret
      exact ⟨by simp, HB6.out⟩
  · rw [decide_eq_false hfew] at hf
    have HF := Lib.hid hf
    clear hf hfew hsum hn hls hS h b0 hx0 hl
    go_enter Tryd.func5, Tryd.ntmps5
    go_wp2_with fail
    refine HF.out.mono ?_
    rintro e w1 ⟨rfl, hb1⟩
    have HB1 := Lib.hid (below_then HB0.out HB0.out.size hb1)
    clear hb1 HF
    go_wp2_with fail
    refine (HKN.out w1 HB1.out).mono ?_
    rintro e w6 ⟨rfl, hb6⟩
    have HB6 := Lib.hid (below_then HB1.out HB1.out.size hb6)
    clear hb6
    go_wp2
    go_ret
    exact ⟨rfl, HB6.out⟩
end Go.Proofs.YtefndpejmikioaaDoor
