/-
  THE STATE OF THE MACHINE AND THE WORLD: how they hang together, and what keeps it so.
-/
import Derived.Test.YtbcldnaoecnffaaDoorMc
set_option linter.unusedVariables false
namespace Go.Mx
open Go.RowKit

structure Base where
  w : World
  S : Cells
  C : Cells

structure Rel (Γ : Env) (B : Base) (S : Cells) (ρ : Nat → Info) (st : St) (a : Act) (w : World) : Prop where
  keep : Keep B.C B.w w
  base : ∀ b o, B.S b o → b < B.w.heap.size
  sub : ∀ b o, B.S b o → S b o
  sup : ∀ b o, S b o → B.S b o ∨ B.C b o ∨ B.w.heap.size ≤ b
  lt : ∀ b o, S b o → b < w.heap.size
  own : ∀ k blk, look k st.own = some blk → RelB S w ρ st.own k blk
  cl : ∀ k blk, look k st.own = some blk → ∀ b o, claim (ρ k) blk b o → (B.C b o ∨ B.w.heap.size ≤ b) ∧ b < w.heap.size ∧ ¬ S b o
  disj : ∀ k k' blk blk', look k st.own = some blk → look k' st.own = some blk' → k ≠ k' → ∀ b o, claim (ρ k) blk b o → ¬ claim (ρ k') blk' b o
  len : a.tmps.size = st.tm.length
  tm : ∀ (i : Nat) (v : V) (u : Value), st.tm[i]? = some v → a.tmps[i]? = some u → RelV S w ρ st.own v u
  defers : a.defers = []
  gl : ∀ g cs, Γ.gl g = some cs → ∀ (i : Nat) (c : T), cs[i]? = some c → S g i ∧ ∃ u, w.cell? ⟨g, i, none⟩ = some u ∧ RelT S w c u

def Ble : Blk → Blk → Prop
  | .cells cs, b => ∃ cs', b = .cells cs'
  | .lst sz ts true, b => ∃ ts', b = .lst sz ts' true ∧ ts'.length = ts.length
  | .lst sz ts false, b => b = .lst sz ts false
theorem Ble.refl (b : Blk) : Ble b b := by
  cases b with
  | cells cs => exact ⟨cs, rfl⟩
  | lst sz ts wr => cases wr <;> simp [Ble]
def OwnLe (own own' : List (Nat × Blk)) : Prop := ∀ k b, look k own = some b → ∃ b', look k own' = some b' ∧ Ble b b'
theorem OwnLe.refl (own : List (Nat × Blk)) : OwnLe own own := fun k b h => ⟨b, h, .refl b⟩
theorem OwnLe.cons {own : List (Nat × Blk)} {k : Nat} (b : Blk) (h : look k own = none) : OwnLe own ((k, b) :: own) := fun j c hj => by
  refine ⟨c, ?_, .refl c⟩
  simp only [look]
  rw [if_neg]
  · exact hj
  · intro e; subst e; rw [h] at hj; cases hj
theorem OwnLe.upd {own : List (Nat × Blk)} {k : Nat} {b b' : Blk} (h : look k own = some b) (hb : Ble b b') : OwnLe own (Mx.upd k b' own) := fun j c hj => by
  rw [look_upd h]
  by_cases e : j = k
  · subst e
    rw [h] at hj; cases hj
    exact ⟨b', by simp, hb⟩
  · exact ⟨c, by simp [e, hj], .refl c⟩

theorem RelT.keep {S S' C : Cells} {w w' : World} {x : T} {v : Value} (h : RelT S w x v) (hS : ∀ b o, S b o → S' b o) (hk : Keep C w w') (hC : ∀ b o, C b o → ¬ S b o) (hlt : ∀ b o, S b o → b < w.heap.size) :
    RelT S' w' x v := h.mono hS fun b o hs => hk.cell (fun hc => hC b o hc hs) (hlt b o hs)

section mono
variable {S S' C : Cells} {w w' : World} {ρ ρ' : Nat → Info} {own own' : List (Nat × Blk)}
  (hS : ∀ b o, S b o → S' b o) (hk : Keep C w w') (hC : ∀ b o, C b o → ¬ S b o) (hlt : ∀ b o, S b o → b < w.heap.size)
  (hle : OwnLe own own') (hρ : ∀ k b, look k own = some b → ρ' k = ρ k)
include hS hk hC hlt hle hρ
theorem RelV.mono {v : V} {u : Value} (h : RelV S w ρ own v u) : RelV S' w' ρ' own' v u := by
  cases v with
  | t x => exact RelT.keep h hS hk hC hlt
  | dead => trivial
  | ptr k off =>
    obtain ⟨b, ad, hb, hv, h⟩ := h
    obtain ⟨b', hb', hle'⟩ := hle k b hb
    refine ⟨b', ad, hb', hv, fun hw => ?_⟩
    rw [hρ k b hb]
    apply h
    cases b with
    | cells cs => rfl
    | lst sz ts wr =>
      cases wr
      · simp [Ble] at hle'; subst hle'; exact hw
      · rfl
  | eptr k i j =>
    obtain ⟨sz, ts, wr, ad, hb, hv, h⟩ := h
    obtain ⟨b', hb', hle'⟩ := hle k _ hb
    cases wr
    · simp [Ble] at hle'; subst hle'
      exact ⟨sz, ts, false, ad, hb', hv, by simp⟩
    · obtain ⟨ts', rfl, _⟩ := hle'
      refine ⟨sz, ts', true, ad, hb', hv, fun _ => ?_⟩
      rw [hρ k _ hb]; exact h rfl
  | vptr cs off =>
    obtain ⟨b, o, e, h⟩ := h
    refine ⟨b, o, e, fun i c hc => ?_⟩
    obtain ⟨h1, u', h2, h3⟩ := h i c hc
    exact ⟨hS _ _ h1, u', by rw [hk.cell (fun hc => hC _ _ hc h1) (hlt _ _ h1)]; exact h2, h3.keep hS hk hC hlt⟩
  | sl k off len =>
    obtain ⟨sz, ts, wr, hb, hl, h1, h2⟩ := h
    obtain ⟨b', hb', hle'⟩ := hle k _ hb
    cases wr
    · simp [Ble] at hle'; subst hle'
      refine ⟨sz, ts, false, hb', hl, by simp, fun _ => ?_⟩
      rw [hρ k _ hb]
      exact ⟨(h2 rfl).1.keep hS hk hC hlt, (h2 rfl).2⟩
    · obtain ⟨ts', rfl, hl'⟩ := hle'
      refine ⟨sz, ts', true, hb', by omega, fun _ => ?_, by simp⟩
      rw [hρ k _ hb, hl']; exact h1 rfl
  | mp k => exact h.elim
  | fn f x y => exact h.elim
theorem RelB.mono {k : Nat} {blk : Blk} (hb : look k own = some blk) (hcl : ∀ b o, claim (ρ k) blk b o → ¬ C b o) (h : RelB S w ρ own k blk) : RelB S' w' ρ' own' k blk := by
  have e := hρ k blk hb
  have same : ∀ {arr : Array Value} {t : TypeId}, w.heap[(ρ k).blk]? = some (.cells arr t (0, 0)) → (∀ o, ¬ C (ρ k).blk o) → w'.heap[(ρ k).blk]? = some (.cells arr t (0, 0)) := by
    intro arr t hh hn
    have hlt' : (ρ k).blk < w.heap.size := by
      rcases Nat.lt_or_ge (ρ k).blk w.heap.size with h | h
      · exact h
      · simp [Array.getElem?_eq_none h] at hh
    rcases hk.blk _ hlt' with e1 | ⟨c, c', t', f, h1, h2, h3, h4⟩
    · rw [e1]; exact hh
    · rw [h1] at hh
      simp only [Option.some.injEq, Obj.cells.injEq] at hh
      obtain ⟨rfl, rfl, rfl⟩ := hh
      have : c' = c := Array.ext_getElem? fun j => h4 j (hn j)
      rw [h2, this]
  cases blk with
  | cells cs =>
    obtain ⟨arr, t, h1, h2, h3⟩ := h
    refine ⟨arr, t, ?_, h2, fun i c v hc hv => RelV.mono hS hk hC hlt hle hρ (h3 i c v hc hv)⟩
    rw [e]; exact same h1 fun o => hcl _ o rfl
  | lst sz ts wr =>
    cases wr with
    | true =>
      obtain ⟨arr, t, cap, h1, h2, h3, h4, h5, h6⟩ := h
      rw [RelB, e]
      refine ⟨arr, t, cap, same h1 fun o => hcl _ o rfl, h2, h3, h4, h5, fun i x j c hi hj => ?_⟩
      obtain ⟨v, hv, hr⟩ := h6 i x j c hi hj
      exact ⟨v, hv, hr.keep hS hk hC hlt⟩
    | false =>
      obtain ⟨h1, h2, h3⟩ := h
      rw [RelB, e]
      refine ⟨h1.keep hS hk hC hlt, fun b o sp n cap hrv => ?_, h3⟩
      obtain ⟨h4, arr, t, h5, h6⟩ := h2 b o sp n cap hrv
      refine ⟨h4, ?_⟩
      have hlt' : b < w.heap.size := by
        rcases Nat.lt_or_ge b w.heap.size with h | h
        · exact h
        · simp [Array.getElem?_eq_none h] at h5
      rcases hk.blk _ hlt' with e1 | ⟨c, c', t', f, g1, g2, g3, g4⟩
      · exact ⟨arr, t, by rw [e1]; exact h5, h6⟩
      · rw [g1] at h5
        simp only [Option.some.injEq, Obj.cells.injEq] at h5
        obtain ⟨rfl, rfl, rfl⟩ := h5
        exact ⟨c', t', g2, by omega⟩
end mono

theorem Keep.comp {C C' : Cells} {a b c : World} (h : Keep C a b) (k : Keep C' b c) (hc : ∀ x o, x < a.heap.size → C' x o → C x o) : Keep C a c :=
  ⟨k.os.trans h.os, k.tape.trans h.tape, k.output.trans h.output, Nat.le_trans h.size k.size, fun i hi => by
    refine (h.blk i hi).trans ?_
    rcases k.blk i (Nat.lt_of_lt_of_le hi h.size) with e | ⟨x, x', e, f, h1, h2, h3, h4⟩
    · exact .inl e
    · exact .inr ⟨x, x', e, f, h1, h2, h3, fun j hj => h4 j fun hcj => hj (hc i j hi hcj)⟩⟩
/-- A MOVE: the world turns at cells of C alone, new blocks come, S grows by new blocks, the own map is turned. -/
theorem Rel.move {Γ : Env} {B : Base} {S S' C : Cells} {ρ ρ' : Nat → Info} {tm : List V} {own own' : List (Nat × Blk)} {a : Act} {w w' : World}
    (h : Rel Γ B S ρ ⟨tm, own⟩ a w) (hk : Keep C w w') (hC : ∀ b o, C b o → ¬ S b o ∧ (B.C b o ∨ B.w.heap.size ≤ b))
    (hS : ∀ b o, S b o → S' b o) (hS' : ∀ b o, S' b o → S b o ∨ (w.heap.size ≤ b ∧ b < w'.heap.size))
    (hle : OwnLe own own') (hρ : ∀ k b, look k own = some b → ρ' k = ρ k)
    (hown : ∀ k blk, look k own' = some blk → (look k own = some blk ∧ ∀ b o, claim (ρ k) blk b o → ¬ C b o) ∨
      (RelB S' w' ρ' own' k blk ∧ ∀ b o, claim (ρ' k) blk b o → (B.C b o ∨ B.w.heap.size ≤ b) ∧ b < w'.heap.size ∧ ¬ S' b o))
    (hdisj : ∀ k k' blk blk', look k own' = some blk → look k' own' = some blk' → k ≠ k' → ∀ b o, claim (ρ' k) blk b o → ¬ claim (ρ' k') blk' b o) :
    Rel Γ B S' ρ' ⟨tm, own'⟩ a w' := by
  have hCS : ∀ b o, C b o → ¬ S b o := fun b o hc => (hC b o hc).1
  refine ⟨?_, h.base, fun b o hb => hS b o (h.sub b o hb), ?_, ?_, ?_, ?_, hdisj, h.len, ?_, h.defers, ?_⟩
  · refine h.keep.comp hk fun x o hx hc => ?_
    rcases (hC x o hc).2 with hc | hc
    · exact hc
    · omega
  · intro b o hb
    rcases hS' b o hb with hb | hb
    · exact h.sup b o hb
    · exact .inr (.inr (Nat.le_trans h.keep.size hb.1))
  · intro b o hb
    rcases hS' b o hb with hb | hb
    · exact Nat.lt_of_lt_of_le (h.lt b o hb) hk.size
    · exact hb.2
  · intro k blk hl
    rcases hown k blk hl with ⟨h1, h2⟩ | h1
    · exact RelB.mono hS hk hCS h.lt hle hρ h1 h2 (h.own k blk h1)
    · exact h1.1
  · intro k blk hl b o hc
    rcases hown k blk hl with ⟨h1, h2⟩ | h1
    · rw [hρ k blk h1] at hc
      obtain ⟨g1, g2, g3⟩ := h.cl k blk h1 b o hc
      refine ⟨g1, Nat.lt_of_lt_of_le g2 hk.size, fun hs => ?_⟩
      rcases hS' b o hs with hs | hs
      · exact g3 hs
      · omega
    · exact h1.2 b o hc
  · intro i v u hv hu
    exact RelV.mono hS hk hCS h.lt hle hρ (h.tm i v u hv hu)
  · intro g cs hg i c hc
    obtain ⟨h1, u, h2, h3⟩ := h.gl g cs hg i c hc
    exact ⟨hS _ _ h1, u, by rw [hk.cell (fun hc => hCS _ _ hc h1) (h.lt _ _ h1)]; exact h2, h3.keep hS hk hCS h.lt⟩
end Go.Mx
