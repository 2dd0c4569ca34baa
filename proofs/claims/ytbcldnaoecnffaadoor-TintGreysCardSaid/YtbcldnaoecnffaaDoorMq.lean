/-
  REGIONS: in the order of the text, and in whatever order.
-/
import Derived.Test.YtbcldnaoecnffaaDoorMp
import Derived.Orders
set_option linter.unusedVariables false
namespace Go.Mx
open Go.RowKit

section
variable {P : Program} {Γ : Env} {B : Base} {Q : Exit → Act → World → Prop}

theorem Good.rel {st : St} {a : Act} {w : World} (h : Good Γ B st a w) : ∃ S ρ, Rel Γ B S ρ ⟨st.tm, st.own⟩ a w := h

theorem step_good (hΓ : EnvOk P Γ) {o : Oper} {mk : MK} (hl : lowOp P o = some mk) {st : St} {a : Act} {w : World} {K : St → Prop} {next : Act → World → Prop} (h : stepK Γ o.dst st mk K) (hg : Good Γ B st a w)
    (hn : ∀ st' a' w', K st' → Good Γ B st' a' w' → next a' w') : o.wp P a w next Q := by
  obtain ⟨S, ρ, hr⟩ := hg
  obtain ⟨tm, own⟩ := st
  exact step_sound hΓ hn hr hl h

theorem good_put {st : St} {a : Act} {w : World} (hg : Good Γ B st a w) (d : Option Nat) : Good Γ B (st.put d (.t .undef)) (a.put d undef) w := by
  obtain ⟨S, ρ, hr⟩ := hg
  exact ⟨S, ρ, hr.put (.tup [] #[] rfl fun i c u h => by simp at h)⟩

/-- the guard's slot -/
theorem guard_slot {ops : Array Oper} {st : St} {a : Act} {w : World} (hg : Good Γ B st a w) {j t : Nat} (hj : (ops[j]?).bind (·.dst) = some t) {v : V} (hv : st.tm[t]? = some v) :
    (∀ b, v = .t (.bool b) → yielded ops a.tmps j = some b) ∧ (∀ l, v = .t (.tup l) → yielded ops a.tmps j = none) := by
  obtain ⟨S, ρ, hr⟩ := hg.rel
  have h1 := hr.ev hv
  have hlt : t < a.tmps.size := by
    rw [hr.len]
    rcases Nat.lt_or_ge t st.tm.length with h | h
    · exact h
    · rw [List.getElem?_eq_none h] at hv; cases hv
  have e : a.tmps[t]? = some (a.tmps.getD t undef) := by simp [hlt]
  refine ⟨fun b hb => ?_, fun l hl => ?_⟩
  · subst hb
    have := RelT.bool_of h1
    simp [yielded, hj, e, this]
  · subst hl
    have h2 : RelT S w (.tup l) (a.tmps.getD t undef) := h1
    generalize a.tmps.getD t undef = u at h2 e
    cases h2
    simp [yielded, hj, e]

theorem lowG_spec {ops : Array Oper} {o : Oper} {g : Option (Nat × Bool)} (h : lowG ops o = some g) : (g = none ∧ o.guard = none) ∨ ∃ j t b, g = some (t, b) ∧ o.guard = some (j, b) ∧ (ops[j]?).bind (·.dst) = some t := by
  unfold lowG at h
  split at h
  · rename_i e; cases h; exact .inl ⟨rfl, e⟩
  · rename_i j b e
    split at h
    · rename_i t e2; cases h; exact .inr ⟨j, t, b, rfl, e, e2⟩
    · cases h

theorem lowOps_cons {ops : Array Oper} {o : Oper} {r : List Oper} {ml : List MOp} (h : lowOps P ops (o :: r) = some ml) : ∃ k g l, lowOp P o = some k ∧ lowG ops o = some g ∧ lowOps P ops r = some l ∧ ml = ⟨o.dst, k, g⟩ :: l := by
  simp only [lowOps] at h
  split at h
  · rename_i k g l h1 h2 h3; cases h; exact ⟨k, g, l, h1, h2, h3, rfl⟩
  · cases h

theorem runOps_sound (hΓ : EnvOk P Γ) {ops : Array Oper} : ∀ (l : List Oper) (ml : List MOp) (st : St) (a : Act) (w : World) (K : St → Prop), lowOps P ops l = some ml → runOps Γ ml st K → Good Γ B st a w →
    (∀ st' a' w', K st' → Good Γ B st' a' w' → Q .normal a' w') → wpList P ops Q l a w := by
  intro l
  induction l with
  | nil =>
    intro ml st a w K hl h hg hQ
    simp [lowOps] at hl; subst hl
    exact hQ _ _ _ h hg
  | cons o r ih =>
    intro ml st a w K hl h hg hQ
    obtain ⟨k, g, l', h1, h2, h3, rfl⟩ := lowOps_cons hl
    simp only [runOps_nil, runOps_cons] at h
    unfold wpList
    have run : Region.wanted o (yielded ops a.tmps) = true → stepK Γ o.dst st k (fun st => runOps Γ l' st K) →
        (if Region.wanted o (yielded ops a.tmps) = true then o.wp P a w (wpList P ops Q r) Q ∨ (o.asks P a w ∧ LetsOut Q) else wpList P ops Q r (a.put o.dst undef) w) := fun hw hs => by
      rw [if_pos hw]
      exact .inl (step_good hΓ h1 hs hg fun st' a' w' hK hg' => ih l' st' a' w' K h3 hK hg' hQ)
    have skip : Region.wanted o (yielded ops a.tmps) = false → putK st o.dst (.t .undef) (fun st => runOps Γ l' st K) →
        (if Region.wanted o (yielded ops a.tmps) = true then o.wp P a w (wpList P ops Q r) Q ∨ (o.asks P a w ∧ LetsOut Q) else wpList P ops Q r (a.put o.dst undef) w) := fun hw hs => by
      rw [if_neg (by simp [hw])]
      exact ih l' _ _ _ K h3 (putK_elim hs).2 (good_put hg o.dst) hQ
    rcases lowG_spec h2 with ⟨rfl, hgd⟩ | ⟨j, t, b, rfl, hgd, hd⟩
    · exact run (by simp [Region.wanted, hgd]) h
    · obtain ⟨tm, own⟩ := st
      dsimp only at h
      obtain ⟨v, hv, h⟩ := getK_elim h
      obtain ⟨q1, q2⟩ := guard_slot hg hd hv
      split at h
      · rename_i c
        have q3 := q1 c rfl
        have hw : Region.wanted o (yielded ops a.tmps) = (c == b) := by simp [Region.wanted, hgd, q3]
        cases b
        · rcases brK_elim h with ⟨e, h⟩ | ⟨e, h⟩ <;> subst e
          · exact skip (by rw [hw]; rfl) h
          · exact run (by rw [hw]; rfl) h
        · rcases brK_elim h with ⟨e, h⟩ | ⟨e, h⟩ <;> subst e
          · exact run (by rw [hw]; rfl) h
          · exact skip (by rw [hw]; rfl) h
      · have q3 := q2 _ rfl
        exact skip (by simp [Region.wanted, hgd, q3]) h
      · exact h.elim

/-! ### whatever the order -/
/-- what came of a step: left out, or done -/
structure Rec where
  ran : Bool
  out : Out
def Rec.on (r : Rec) (m : MOp) (st : St) : St := r.out.on m.d st
/-- the run in the text's order, step by step -/
inductive Chain (Γ : Env) : List MOp → List Rec → List (List Nat) → St → St → Prop
  | nil (st : St) : Chain Γ [] [] [] st st
  | ran (m : MOp) (u : Out) (ms : List MOp) (rs : List Rec) (ks : List (List Nat)) (st st' : St) (hg : m.g = none ∨ ∃ t b, m.g = some (t, b) ∧ st.tm[t]? = some (.t (.bool b))) (hl : Local Γ m.d m.op st.tm st.own u)
      (h : Chain Γ ms rs ks (u.on m.d st) st') : Chain Γ (m :: ms) (⟨true, u⟩ :: rs) (opKeys st.tm m.op :: ks) st st'
  | skip (m : MOp) (t : Nat) (b : Bool) (ms : List MOp) (rs : List Rec) (ks : List (List Nat)) (st st' : St) (hg : m.g = some (t, b)) (hv : st.tm[t]? = some (.t (.bool (!b))) ∨ ∃ l, st.tm[t]? = some (.t (.tup l))) (hd : ∀ i, m.d = some i → i < st.tm.length)
      (h : Chain Γ ms rs ks ((Out.mk (.t .undef) none).on m.d st) st') : Chain Γ (m :: ms) (⟨false, ⟨.t .undef, none⟩⟩ :: rs) ([] :: ks) st st'

theorem revL_eq (l acc : List (List Nat)) : revL l acc = l.reverse ++ acc := by
  induction l generalizing acc with
  | nil => rfl
  | cons x r ih => simp [revL, ih]
theorem runD_chain : ∀ (ms : List MOp) (st : St) (log : List (List Nat)) (K : St → List (List Nat) → Prop), runD Γ ms st log K → ∃ rs ks st', Chain Γ ms rs ks st st' ∧ K st' (log.reverse ++ ks) := by
  intro ms
  induction ms with
  | nil =>
    intro st log K h
    simp only [runD_nil, runD_cons, revL_eq] at h
    exact ⟨[], [], st, .nil st, by simpa using h⟩
  | cons m ms ih =>
    intro st log K h
    obtain ⟨d, op, g⟩ := m
    obtain ⟨tm, own⟩ := st
    simp only [runD_nil, runD_cons] at h
    have run : ((⟨d, op, g⟩ : MOp).g = none ∨ ∃ t b, (⟨d, op, g⟩ : MOp).g = some (t, b) ∧ tm[t]? = some (.t (.bool b))) → stepK Γ d ⟨tm, own⟩ op (fun st => runD Γ ms st (opKeys tm op :: log) K) →
        ∃ rs ks st', Chain Γ (⟨d, op, g⟩ :: ms) rs ks ⟨tm, own⟩ st' ∧ K st' (log.reverse ++ ks) := fun hg hs => by
      obtain ⟨u, h1, h2⟩ := step_local hs
      obtain ⟨rs, ks, st', h3, h4⟩ := ih _ _ _ h1
      exact ⟨_, _, st', .ran ⟨d, op, g⟩ u ms rs ks ⟨tm, own⟩ st' hg h2 h3, by simpa using h4⟩
    have skip : ∀ t b, g = some (t, b) → (tm[t]? = some (.t (.bool (!b))) ∨ ∃ l, tm[t]? = some (.t (.tup l))) → putK ⟨tm, own⟩ d (.t .undef) (fun st => runD Γ ms st ([] :: log) K) →
        ∃ rs ks st', Chain Γ (⟨d, op, g⟩ :: ms) rs ks ⟨tm, own⟩ st' ∧ K st' (log.reverse ++ ks) := fun t b hg hv hs => by
      obtain ⟨h1, h2⟩ := putK_elim hs
      obtain ⟨rs, ks, st', h3, h4⟩ := ih _ _ _ h2
      exact ⟨_, _, st', .skip ⟨d, op, g⟩ t b ms rs ks ⟨tm, own⟩ st' hg hv h1 h3, by simpa using h4⟩
    cases g with
    | none => exact run (.inl rfl) h
    | some p =>
      obtain ⟨t, b⟩ := p
      dsimp only at h
      obtain ⟨v, hv, h⟩ := getK_elim h
      split at h
      · rename_i c
        cases b
        · rcases brK_elim h with ⟨e, h⟩ | ⟨e, h⟩ <;> subst e
          · exact skip t false rfl (.inl hv) h
          · exact run (.inr ⟨t, false, rfl, hv⟩) h
        · rcases brK_elim h with ⟨e, h⟩ | ⟨e, h⟩ <;> subst e
          · exact run (.inr ⟨t, true, rfl, hv⟩) h
          · exact skip t true rfl (.inl hv) h
      · exact skip t b rfl (.inr ⟨_, hv⟩) h
      · exact h.elim

/-- what is there when those of X have been done, in the text's order -/
def aft (X : Nat → Bool) : Nat → List MOp → List Rec → St → St
  | i, m :: ms, r :: rs, st => aft X (i + 1) ms rs (if X i then r.on m st else st)
  | _, _, _, st => st
theorem Chain.all {ms : List MOp} {rs : List Rec} {ks : List (List Nat)} {st st' : St} (h : Chain Γ ms rs ks st st') (X : Nat → Bool) (i : Nat) (hX : ∀ j, i ≤ j → j < i + ms.length → X j = true) : aft X i ms rs st = st' := by
  induction h generalizing i with
  | nil => rfl
  | ran m u ms rs ks st st' hg hl h ih =>
    simp only [aft]
    rw [hX i (Nat.le_refl i) (by simp)]
    exact ih (i + 1) fun j h1 h2 => hX j (by omega) (by simp; omega)
  | skip m t b ms rs ks st st' hg hv hd h ih =>
    simp only [aft]
    rw [hX i (Nat.le_refl i) (by simp)]
    exact ih (i + 1) fun j h1 h2 => hX j (by omega) (by simp; omega)
theorem Chain.lens {ms : List MOp} {rs : List Rec} {ks : List (List Nat)} {st st' : St} (h : Chain Γ ms rs ks st st') : rs.length = ms.length ∧ ks.length = ms.length := by
  induction h with
  | nil => exact ⟨rfl, rfl⟩
  | ran m u ms rs ks st st' hg hl h ih => simp [ih]
  | skip m t b ms rs ks st st' hg hv hd h ih => simp [ih]
end
end Go.Mx
