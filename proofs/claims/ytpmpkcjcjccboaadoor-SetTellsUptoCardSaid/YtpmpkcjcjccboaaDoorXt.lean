/-
  A REGION, STEP BY STEP, AND WHAT IS THERE WHEN SOME OF ITS STEPS HAVE BEEN DONE.
-/
import Derived.Test.YtpmpkcjcjccboaaDoorXs
set_option linter.unusedVariables false
set_option linter.unusedSimpArgs false
namespace Go.Nx
open Go.RowKit

section
variable {P : Program} {Γ : Env} {B : Base} {Q : Exit → Act → World → Prop}
/-! ### whatever the order -/
/-- what came of a step: left out, or done -/
structure Rec where
  ran : Bool
  out : Out
def Rec.on (r : Rec) (m : MOp) (st : St) : St := r.out.on m.d st
/-- the run in the text's order, step by step -/
inductive Chain (Γ : Env) : List MOp → List Rec → List Log → St → St → Prop
  | nil (st : St) : Chain Γ [] [] [] st st
  | ran (m : MOp) (u : Out) (lg : Log) (ms : List MOp) (rs : List Rec) (ks : List Log) (st st' : St) (hg : m.g = none ∨ ∃ t b, m.g = some (t, b) ∧ st.tm[t]? = some (.t (.bool b))) (hl : Local Γ m.d m.op st.tm st.own u lg)
      (h : Chain Γ ms rs ks (u.on m.d st) st') : Chain Γ (m :: ms) (⟨true, u⟩ :: rs) (lg :: ks) st st'
  | skip (m : MOp) (t : Nat) (b : Bool) (ms : List MOp) (rs : List Rec) (ks : List Log) (st st' : St) (hg : m.g = some (t, b)) (hv : st.tm[t]? = some (.t (.bool (!b))) ∨ ∃ l, st.tm[t]? = some (.t (.tup l))) (hd : ∀ i, m.d = some i → i < st.tm.length)
      (h : Chain Γ ms rs ks ((Out.mk (.t .undef) []).on m.d st) st') : Chain Γ (m :: ms) (⟨false, ⟨.t .undef, []⟩⟩ :: rs) ([] :: ks) st st'

theorem revL_eq (l acc : List Log) : revL l acc = l.reverse ++ acc := by
  induction l generalizing acc with
  | nil => rfl
  | cons x r ih => simp [revL, ih]
theorem runD_chain : ∀ (ms : List MOp) (st : St) (log : List Log) (K : St → List Log → Prop), runD Γ ms st log K → ∃ rs ks st', Chain Γ ms rs ks st st' ∧ K st' (log.reverse ++ ks) := by
  intro ms
  induction ms with
  | nil =>
    intro st log K h
    simp only [runD_nil, runD_cons, revL_eq] at h
    exact ⟨[], [], st, .nil st, by simpa using h⟩
  | cons m ms ih =>
    intro st log K h
    obtain ⟨d, op, g⟩ := m
    obtain ⟨tm, own⟩ := st
    simp only [runD_nil, runD_cons] at h
    have run : ((⟨d, op, g⟩ : MOp).g = none ∨ ∃ t b, (⟨d, op, g⟩ : MOp).g = some (t, b) ∧ tm[t]? = some (.t (.bool b))) → stepK Γ true d ⟨tm, own⟩ op (fun st ks => runD Γ ms st (ks :: log) K) →
        ∃ rs ks st', Chain Γ (⟨d, op, g⟩ :: ms) rs ks ⟨tm, own⟩ st' ∧ K st' (log.reverse ++ ks) := fun hg hs => by
      obtain ⟨u, lg, h1, h2⟩ := step_local hs
      obtain ⟨rs, ks, st', h3, h4⟩ := ih _ _ _ h1
      exact ⟨_, _, st', .ran ⟨d, op, g⟩ u lg ms rs ks ⟨tm, own⟩ st' hg h2 h3, by simpa using h4⟩
    have skip : ∀ t b, g = some (t, b) → (tm[t]? = some (.t (.bool (!b))) ∨ ∃ l, tm[t]? = some (.t (.tup l))) → putK ⟨tm, own⟩ d (.t .undef) (fun st => runD Γ ms st ([] :: log) K) →
        ∃ rs ks st', Chain Γ (⟨d, op, g⟩ :: ms) rs ks ⟨tm, own⟩ st' ∧ K st' (log.reverse ++ ks) := fun t b hg hv hs => by
      obtain ⟨h1, h2⟩ := putK_elim hs
      obtain ⟨rs, ks, st', h3, h4⟩ := ih _ _ _ h2
      exact ⟨_, _, st', .skip ⟨d, op, g⟩ t b ms rs ks ⟨tm, own⟩ st' hg hv h1 h3, by simpa using h4⟩
    cases g with
    | none => exact run (.inl rfl) h
    | some p =>
      obtain ⟨t, b⟩ := p
      dsimp only at h
      obtain ⟨v, hv, h⟩ := getK_elim h
      split at h
      · rename_i c
        cases b
        · (have h0 := brK_elim h; clear h); rcases h0 with ⟨e, h⟩ | ⟨e, h⟩ <;> subst e
          · exact skip t false rfl (.inl hv) h
          · exact run (.inr ⟨t, false, rfl, hv⟩) h
        · (have h0 := brK_elim h; clear h); rcases h0 with ⟨e, h⟩ | ⟨e, h⟩ <;> subst e
          · exact run (.inr ⟨t, true, rfl, hv⟩) h
          · exact skip t true rfl (.inl hv) h
      · exact skip t b rfl (.inr ⟨_, hv⟩) h
      · exact h.elim

/-- what is there when those of X have been done, in the text's order -/
def aft (X : Nat → Bool) : Nat → List MOp → List Rec → St → St
  | i, m :: ms, r :: rs, st => aft X (i + 1) ms rs (if X i then r.on m st else st)
  | _, _, _, st => st
theorem Chain.all {ms : List MOp} {rs : List Rec} {ks : List Log} {st st' : St} (h : Chain Γ ms rs ks st st') (X : Nat → Bool) (i : Nat) (hX : ∀ j, i ≤ j → j < i + ms.length → X j = true) : aft X i ms rs st = st' := by
  induction h generalizing i with
  | nil => rfl
  | ran m u lg ms rs ks st st' hg hl h ih =>
    simp only [aft]
    rw [hX i (Nat.le_refl i) (by simp)]
    exact ih (i + 1) fun j h1 h2 => hX j (by omega) (by simp; omega)
  | skip m t b ms rs ks st st' hg hv hd h ih =>
    simp only [aft]
    rw [hX i (Nat.le_refl i) (by simp)]
    exact ih (i + 1) fun j h1 h2 => hX j (by omega) (by simp; omega)
theorem Chain.lens {ms : List MOp} {rs : List Rec} {ks : List Log} {st st' : St} (h : Chain Γ ms rs ks st st') : rs.length = ms.length ∧ ks.length = ms.length := by
  induction h with
  | nil => exact ⟨rfl, rfl⟩
  | ran m u lg ms rs ks st st' hg hl h ih => simp [ih]
  | skip m t b ms rs ks st st' hg hv hd h ih => simp [ih]
end

theorem put_tm (st : St) (d : Option Nat) (v : V) (t : Nat) : (st.put d v).tm[t]? = if d = some t ∧ t < st.tm.length then some v else st.tm[t]? := by
  cases d with
  | none => simp [St.put]
  | some d =>
    simp only [St.put, Option.some.injEq]
    rw [List.getElem?_set]
    by_cases e : d = t
    · subst e
      by_cases h : d < st.tm.length
      · simp [h]
      · simp [h]
    · simp [e]
theorem put_len (st : St) (d : Option Nat) (v : V) : (st.put d v).tm.length = st.tm.length := by cases d <;> simp [St.put]
theorem put_own (st : St) (d : Option Nat) (v : V) : (st.put d v).own = st.own := by cases d <;> rfl
theorem on_tm (r : Rec) (m : MOp) (st : St) (t : Nat) : (r.on m st).tm[t]? = if m.d = some t ∧ t < st.tm.length then some r.out.v else st.tm[t]? := put_tm _ _ _ _
theorem on_len (r : Rec) (m : MOp) (st : St) : (r.on m st).tm.length = st.tm.length := put_len _ _ _
theorem on_own (r : Rec) (m : MOp) (st : St) (k : Nat) : look k (r.on m st).own = match wlook k r.out.ws with
    | some b => some b
    | none => look k st.own := by
  show look k ((⟨st.tm, wsOn r.out.ws st.own⟩ : St).put m.d r.out.v).own = _
  rw [put_own]
  exact look_wsOn _ _ _

theorem aft_len (X : Nat → Bool) : ∀ (ms : List MOp) (rs : List Rec) (i : Nat) (st : St), (aft X i ms rs st).tm.length = st.tm.length := by
  intro ms
  induction ms with
  | nil => intro rs i st; simp [aft]
  | cons m ms ih =>
    intro rs i st
    cases rs with
    | nil => simp [aft]
    | cons r rs =>
      simp only [aft]
      rw [ih]
      split
      · exact on_len r m st
      · rfl
/-- a slot that only those write that both have, or neither -/
theorem aft_tm (X Y : Nat → Bool) (t : Nat) : ∀ (ms : List MOp) (rs : List Rec) (i : Nat) (st st2 : St), st.tm.length = st2.tm.length → st.tm[t]? = st2.tm[t]? →
    (∀ (n : Nat) (m : MOp), ms[n]? = some m → X (i + n) ≠ Y (i + n) → m.d ≠ some t) → (aft X i ms rs st).tm[t]? = (aft Y i ms rs st2).tm[t]? := by
  intro ms
  induction ms with
  | nil => intro rs i st st2 _ h _; simpa [aft] using h
  | cons m ms ih =>
    intro rs i st st2 hl h hd
    cases rs with
    | nil => simpa [aft] using h
    | cons r rs =>
      simp only [aft]
      refine ih rs (i + 1) _ _ ?_ ?_ fun n m' hm hne => hd (n + 1) m' (by simpa using hm) (by rw [show i + (n + 1) = i + 1 + n by omega]; exact hne)
      · split <;> split <;> simp [on_len, hl]
      · have h0 := hd 0 m rfl
        cases hx : X i <;> cases hy : Y i <;> simp [hx, hy] at h0 ⊢
        · exact h
        · rw [on_tm]; simp [h0, h]
        · rw [on_tm]; simp [h0, h]
        · rw [on_tm, on_tm, hl, h]
theorem aft_own (X Y : Nat → Bool) (k : Nat) : ∀ (ms : List MOp) (rs : List Rec) (i : Nat) (st st2 : St), look k st.own = look k st2.own →
    (∀ (n : Nat) (r : Rec), rs[n]? = some r → X (i + n) ≠ Y (i + n) → wlook k r.out.ws = none) → look k (aft X i ms rs st).own = look k (aft Y i ms rs st2).own := by
  intro ms
  induction ms with
  | nil => intro rs i st st2 h _; simpa [aft] using h
  | cons m ms ih =>
    intro rs i st st2 h hd
    cases rs with
    | nil => simpa [aft] using h
    | cons r rs =>
      simp only [aft]
      refine ih rs (i + 1) _ _ ?_ fun n m' hm hne => hd (n + 1) m' (by simpa using hm) (by rw [show i + (n + 1) = i + 1 + n by omega]; exact hne)
      have h0 := hd 0 r rfl
      have nw : wlook k r.out.ws = none → ∀ s : St, look k (r.on m s).own = look k s.own := fun hb s => by
        rw [on_own, hb]
      cases hx : X i <;> cases hy : Y i <;> simp [hx, hy] at h0 ⊢
      · exact h
      · rw [nw h0]; exact h
      · rw [nw h0]; exact h
      · rw [on_own, on_own, h]
theorem aft_none (X : Nat → Bool) : ∀ (ms : List MOp) (rs : List Rec) (i : Nat) (st : St), (∀ n, X (i + n) = false) → aft X i ms rs st = st := by
  intro ms
  induction ms with
  | nil => intro rs i st _; simp [aft]
  | cons m ms ih =>
    intro rs i st h
    cases rs with
    | nil => simp [aft]
    | cons r rs =>
      have h0 := h 0
      simp only [Nat.add_zero] at h0
      simp only [aft, h0, Bool.false_eq_true, if_false]
      exact ih rs (i + 1) st fun n => by rw [show i + 1 + n = i + (n + 1) by omega]; exact h _
/-- the last one that writes a slot -/
theorem aft_tm_last (X : Nat → Bool) (t : Nat) : ∀ (n : Nat) (ms : List MOp) (rs : List Rec) (i : Nat) (st : St) (m : MOp) (r : Rec), ms[n]? = some m → rs[n]? = some r → X (i + n) = true → m.d = some t → t < st.tm.length →
    (∀ (n' : Nat) (m' : MOp), n < n' → ms[n']? = some m' → X (i + n') = true → m'.d ≠ some t) → (aft X i ms rs st).tm[t]? = some r.out.v := by
  intro n
  induction n with
  | zero =>
    intro ms rs i st m r hm hr hx hd ht hlast
    cases ms with
    | nil => simp at hm
    | cons m0 ms =>
      cases rs with
      | nil => simp at hr
      | cons r0 rs =>
        simp at hm hr; subst hm hr
        simp only [Nat.add_zero] at hx
        simp only [aft, hx, if_true]
        have h1 := aft_tm X (fun _ => false) t ms rs (i + 1) (r0.on m0 st) (r0.on m0 st) rfl rfl fun n m' hm' hne => by
          refine hlast (n + 1) m' (by omega) (by simpa using hm') ?_
          rw [show i + (n + 1) = i + 1 + n by omega]
          cases e : X (i + 1 + n)
          · exact absurd e hne
          · rfl
        rw [h1, aft_none _ _ _ _ _ (fun _ => rfl), on_tm]
        simp [hd, ht]
  | succ n ih =>
    intro ms rs i st m r hm hr hx hd ht hlast
    cases ms with
    | nil => simp at hm
    | cons m0 ms =>
      cases rs with
      | nil => simp at hr
      | cons r0 rs =>
        simp only [aft]
        refine ih ms rs (i + 1) _ m r (by simpa using hm) (by simpa using hr) (by rw [show i + 1 + n = i + (n + 1) by omega]; exact hx) hd ?_ fun n' m' hlt hm' hx' => ?_
        · split
          · rw [on_len]; exact ht
          · exact ht
        · exact hlast (n' + 1) m' (by omega) (by simpa using hm') (by rw [show i + (n' + 1) = i + 1 + n' by omega]; exact hx')
theorem aft_own_last (X : Nat → Bool) (k : Nat) (b : Blk) : ∀ (n : Nat) (ms : List MOp) (rs : List Rec) (i : Nat) (st : St) (m : MOp) (r : Rec), ms[n]? = some m → rs[n]? = some r → X (i + n) = true → wlook k r.out.ws = some b →
    (∀ (n' : Nat) (r' : Rec), n < n' → rs[n']? = some r' → X (i + n') = true → wlook k r'.out.ws = none) → look k (aft X i ms rs st).own = some b := by
  intro n
  induction n with
  | zero =>
    intro ms rs i st m r hm hr hx hd hlast
    cases ms with
    | nil => simp at hm
    | cons m0 ms =>
      cases rs with
      | nil => simp at hr
      | cons r0 rs =>
        simp at hm hr; subst hm hr
        simp only [Nat.add_zero] at hx
        simp only [aft, hx, if_true]
        have h1 := aft_own X (fun _ => false) k ms rs (i + 1) (r0.on m0 st) (r0.on m0 st) rfl fun n m' hm' hne => by
          refine hlast (n + 1) m' (by omega) (by simpa using hm') ?_
          rw [show i + (n + 1) = i + 1 + n by omega]
          cases e : X (i + 1 + n)
          · exact absurd e hne
          · rfl
        rw [h1, aft_none _ _ _ _ _ (fun _ => rfl), on_own, hd]
  | succ n ih =>
    intro ms rs i st m r hm hr hx hd hlast
    cases ms with
    | nil => simp at hm
    | cons m0 ms =>
      cases rs with
      | nil => simp at hr
      | cons r0 rs =>
        simp only [aft]
        refine ih ms rs (i + 1) _ m r (by simpa using hm) (by simpa using hr) (by rw [show i + 1 + n = i + (n + 1) by omega]; exact hx) hd fun n' m' hlt hm' hx' => ?_
        exact hlast (n' + 1) m' (by omega) (by simpa using hm') (by rw [show i + (n' + 1) = i + 1 + n' by omega]; exact hx')

theorem Chain.skips {Γ : Env} {ms : List MOp} {rs : List Rec} {ks : List Log} {st st' : St} (h : Chain Γ ms rs ks st st') : ∀ (n : Nat) (m : MOp) (r : Rec) (k : Log), ms[n]? = some m → rs[n]? = some r → ks[n]? = some k → r.ran = false → k = [] := by
  induction h with
  | nil => intro n m r k hm; simp at hm
  | ran m u lg ms rs ks st st' hg hl h ih =>
    intro n m' r k hm hr hk
    cases n with
    | zero => simp at hr; subst hr; intro h; cases h
    | succ n => exact ih n m' r k (by simpa using hm) (by simpa using hr) (by simpa using hk)
  | skip m t b ms rs ks st st' hg hv hd h ih =>
    intro n m' r k hm hr hk
    cases n with
    | zero => simp at hk; intro _; exact hk
    | succ n => exact ih n m' r k (by simpa using hm) (by simpa using hr) (by simpa using hk)
/-- what is known of one, where the text's order comes to it -/
def NodeOk (Γ : Env) (m : MOp) (r : Rec) (k : Log) (st : St) : Prop :=
  (r.ran = true ∧ (m.g = none ∨ ∃ t b, m.g = some (t, b) ∧ st.tm[t]? = some (.t (.bool b))) ∧ Local Γ m.d m.op st.tm st.own r.out k) ∨
  (r.ran = false ∧ (∃ t b, m.g = some (t, b) ∧ (st.tm[t]? = some (.t (.bool (!b))) ∨ ∃ l, st.tm[t]? = some (.t (.tup l)))) ∧ r.out = ⟨.t .undef, []⟩)
theorem Chain.at {Γ : Env} {ms : List MOp} {rs : List Rec} {ks : List Log} {st st' : St} (h : Chain Γ ms rs ks st st') : ∀ (n i : Nat) (m : MOp) (r : Rec) (k : Log), ms[n]? = some m → rs[n]? = some r → ks[n]? = some k →
    NodeOk Γ m r k (aft (fun j => decide (j < i + n)) i ms rs st) := by
  induction h with
  | nil => intro n i m r k hm; simp at hm
  | ran m u lg ms rs ks st st' hg hl h ih =>
    intro n i m' r k hm hr hk
    cases n with
    | zero =>
      simp at hm hr hk; subst hm hr hk
      rw [aft_none _ _ _ _ _ (fun n => by simp)]
      exact .inl ⟨rfl, hg, hl⟩
    | succ n =>
      simp only [aft]
      rw [if_pos (by simp)]
      have := ih n (i + 1) m' r k (by simpa using hm) (by simpa using hr) (by simpa using hk)
      rw [show i + 1 + n = i + (n + 1) by omega] at this
      exact this
  | skip m t b ms rs ks st st' hg hv hd h ih =>
    intro n i m' r k hm hr hk
    cases n with
    | zero =>
      simp at hm hr hk; subst hm hr hk
      rw [aft_none _ _ _ _ _ (fun n => by simp)]
      exact .inr ⟨rfl, ⟨t, b, hg, hv⟩, rfl⟩
    | succ n =>
      simp only [aft]
      rw [if_pos (by simp)]
      have := ih n (i + 1) m' r k (by simpa using hm) (by simpa using hr) (by simpa using hk)
      rw [show i + 1 + n = i + (n + 1) by omega] at this
      exact this
end Go.Nx
