/-
  THE MOVES: a slot is written, a block is made, a block's cells are written, an order is drawn, a call has made blocks of its own.
-/
import Derived.Test.YtbcldnaoecnffaaDoorMd
set_option linter.unusedVariables false
namespace Go.Mx
open Go.RowKit

section
variable {Γ : Env} {B : Base} {S : Cells} {ρ : Nat → Info} {tm : List V} {own : List (Nat × Blk)} {a : Act} {w : World}

theorem Rel.put {st : St} (h : Rel Γ B S ρ st a w) {d : Option Nat} {v : V} {u : Value} (hv : RelV S w ρ st.own v u) : Rel Γ B S ρ (st.put d v) (a.put d u) w := by
  cases d with
  | none => exact h
  | some d =>
    refine ⟨h.keep, h.base, h.sub, h.sup, h.lt, h.own, h.cl, h.disj, ?_, ?_, h.defers, h.gl⟩
    · simp [Act.put, St.put, h.len]
    · intro i v' u' hv' hu'
      simp only [Act.put, St.put] at hv' hu'
      by_cases e : d = i
      · subst e
        have hlt : d < st.tm.length := by
          rcases Nat.lt_or_ge d st.tm.length with h' | h'
          · exact h'
          · rw [List.getElem?_eq_none (by simpa using h')] at hv'; cases hv'
        rw [List.getElem?_set_self hlt] at hv'
        rw [Array.getElem?_setIfInBounds_self_of_lt (by rw [h.len]; exact hlt)] at hu'
        cases hv'; cases hu'
        exact hv
      · rw [List.getElem?_set_ne e] at hv'
        rw [Array.getElem?_setIfInBounds_ne e] at hu'
        exact h.tm i v' u' hv' hu'

theorem Rel.drawn (h : Rel Γ B S ρ ⟨tm, own⟩ a w) (n : Nat) : Rel Γ B S ρ ⟨tm, own⟩ a { w with drawn := n } :=
  h.move (Keep.drawn (fun _ _ => False) w n) (fun _ _ h => h.elim) (fun _ _ h => h) (fun _ _ h => .inl h) (.refl _) (fun _ _ _ => rfl)
    (fun k blk hl => .inl ⟨hl, fun _ _ _ h => h⟩) h.disj

/-- A call of which it is known that what there was stays: its blocks are settled. -/
theorem Rel.called (h : Rel Γ B S ρ ⟨tm, own⟩ a w) {w' : World} (hb : Below w.heap.size w w') :
    Rel Γ B (fun b o => S b o ∨ (w.heap.size ≤ b ∧ b < w'.heap.size)) ρ ⟨tm, own⟩ a w' :=
  h.move (Keep.of_below (C := fun _ _ => False) hb) (fun _ _ h => h.elim) (fun _ _ h => .inl h) (fun _ _ h => h) (.refl _) (fun _ _ _ => rfl)
    (fun k blk hl => .inl ⟨hl, fun _ _ _ h => h⟩) h.disj

theorem push_get (heap : Array Obj) (o : Obj) : (heap.push o)[heap.size]? = some o := by simp

/-- A new block. -/
theorem Rel.alloc (h : Rel Γ B S ρ ⟨tm, own⟩ a w) {k : Nat} {blk : Blk} {arr : Array Value} {e : TypeId} {rv : Value} (hf : look k own = none) (hw : blk.wr = true)
    (hb : ∀ ρ', ρ' k = ⟨w.heap.size, rv⟩ → (∀ j b, look j own = some b → ρ' j = ρ j) → RelB S { w with heap := w.heap.push (.cells arr e) } ρ' ((k, blk) :: own) k blk) :
    ∃ ρ', ρ' k = ⟨w.heap.size, rv⟩ ∧ Rel Γ B S ρ' ⟨tm, (k, blk) :: own⟩ a { w with heap := w.heap.push (.cells arr e) } := by
  refine ⟨fun j => if j = k then ⟨w.heap.size, rv⟩ else ρ j, by simp, ?_⟩
  have hcl : ∀ (i : Info) (b o : Nat), claim i blk b o → b = i.blk := by
    intro i b o hc
    cases blk with
    | cells cs => exact hc
    | lst sz ts wr => cases wr <;> first | exact hc | (simp [Blk.wr] at hw)
  have hρ : ∀ j b, look j own = some b → (if j = k then (⟨w.heap.size, rv⟩ : Info) else ρ j) = ρ j := by
    intro j b hj
    rw [if_neg]
    intro e; subst e; rw [hf] at hj; cases hj
  refine h.move (Keep.alloc (fun _ _ => False) w _) (fun _ _ h => h.elim) (fun _ _ h => h) (fun _ _ h => .inl h) (OwnLe.cons blk hf) hρ ?_ ?_
  · intro j b hj
    by_cases e : j = k
    · subst e
      simp [look] at hj; subst hj
      refine .inr ⟨hb _ (by simp) hρ, fun b' o hc => ?_⟩
      have := hcl _ _ _ hc
      simp at this; subst this
      refine ⟨.inr h.keep.size, by simp, fun hs => ?_⟩
      have := h.lt _ _ hs
      omega
    · simp [look, Ne.symm e] at hj
      exact .inl ⟨hj, fun _ _ _ h => h⟩
  · intro j j' b b' hj hj' hne b1 o1 hc hc'
    have old : ∀ i x, i ≠ k → look i ((k, blk) :: own) = some x → ∀ b o, claim (if i = k then (⟨w.heap.size, rv⟩ : Info) else ρ i) x b o → look i own = some x ∧ claim (ρ i) x b o ∧ b < w.heap.size := by
      intro i x hi hl b o hc
      simp [look, Ne.symm hi] at hl
      rw [if_neg hi] at hc
      exact ⟨hl, hc, (h.cl i x hl b o hc).2.1⟩
    by_cases e : j = k
    · subst e
      simp [look] at hj; subst hj
      have h1 := hcl _ _ _ hc
      simp at h1; subst h1
      have := (old j' b' (Ne.symm hne) hj' _ _ hc').2.2
      omega
    · by_cases e' : j' = k
      · subst e'
        simp [look] at hj'; subst hj'
        have h1 := hcl _ _ _ hc'
        simp at h1; subst h1
        have := (old j b e hj _ _ hc).2.2
        omega
      · obtain ⟨g1, g2, _⟩ := old j b e hj _ _ hc
        obtain ⟨g3, g4, _⟩ := old j' b' e' hj' _ _ hc'
        exact h.disj j j' b b' g1 g3 hne _ _ g2 g4

/-- The cells of an own block are written. -/
theorem Rel.wrote (h : Rel Γ B S ρ ⟨tm, own⟩ a w) {k : Nat} {blk blk' : Blk} {w' : World} (hl : look k own = some blk) (hw : blk.wr = true) (hw' : blk'.wr = true) (hle : Ble blk blk')
    (hk : Keep (fun b _ => b = (ρ k).blk) w w') (hb : RelB S w' ρ (upd k blk' own) k blk') : Rel Γ B S ρ ⟨tm, upd k blk' own⟩ a w' := by
  have hcl : ∀ (x : Blk), x.wr = true → ∀ (i : Info) (b o : Nat), claim i x b o ↔ b = i.blk := by
    intro x hx i b o
    cases x with
    | cells cs => exact Iff.rfl
    | lst sz ts wr => cases wr <;> first | exact Iff.rfl | (simp [Blk.wr] at hx)
  have hc0 := h.cl k blk hl
  refine h.move hk (fun b o hbo => ?_) (fun _ _ h => h) (fun _ _ h => .inl h) (OwnLe.upd hl hle) (fun _ _ _ => rfl) ?_ ?_
  · obtain ⟨g1, g2, g3⟩ := hc0 b o ((hcl blk hw _ _ _).2 hbo)
    exact ⟨g3, g1⟩
  · intro j b hj
    rw [look_upd hl] at hj
    by_cases e : j = k
    · subst e
      simp at hj; subst hj
      refine .inr ⟨hb, fun b o hc => ?_⟩
      obtain ⟨g1, g2, g3⟩ := hc0 b o ((hcl blk hw _ _ _).2 ((hcl _ hw' _ _ _).1 hc))
      exact ⟨g1, Nat.lt_of_lt_of_le g2 hk.size, g3⟩
    · simp [e] at hj
      refine .inl ⟨hj, fun b o hc hbo => ?_⟩
      exact h.disj j k _ _ hj hl e b o hc ((hcl blk hw _ _ _).2 hbo)
  · intro j j' b b' hj hj' hne b1 o1 hc hc'
    rw [look_upd hl] at hj hj'
    by_cases e : j = k
    · subst e
      simp at hj; subst hj
      have e2 : ¬ j' = j := fun e => hne e.symm
      simp [e2] at hj'
      exact h.disj j j' _ _ hl hj' hne b1 o1 ((hcl blk hw _ _ _).2 ((hcl _ hw' _ _ _).1 hc)) hc'
    · simp [e] at hj
      by_cases e' : j' = k
      · subst e'
        simp at hj'; subst hj'
        exact h.disj j j' _ _ hj hl hne b1 o1 hc ((hcl blk hw _ _ _).2 ((hcl _ hw' _ _ _).1 hc'))
      · simp [e'] at hj'
        exact h.disj j j' _ _ hj hj' hne b1 o1 hc hc'

/-- what an operand's slot holds -/
theorem Rel.ev (h : Rel Γ B S ρ ⟨tm, own⟩ a w) {i : Nat} {v : V} (hv : tm[i]? = some v) : RelV S w ρ own v (a.tmps.getD i undef) := by
  have hlt : i < a.tmps.size := by
    rw [h.len]
    rcases Nat.lt_or_ge i tm.length with h' | h'
    · exact h'
    · rw [List.getElem?_eq_none h'] at hv; cases hv
  have e : a.tmps[i]? = some (a.tmps.getD i undef) := by simp [hlt]
  exact h.tm i v _ hv e
end
end Go.Mx
