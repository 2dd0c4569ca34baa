/-
  A REGION, IN WHATEVER ORDER ITS EDGES ALLOW, COMES TO WHAT IT COMES TO IN THE TEXT's.
-/
import Derived.Test.YtbcldnaoecnffaaDoorMq
set_option linter.unusedVariables false
namespace Go.Mx
open Go.RowKit

theorem put_tm (st : St) (d : Option Nat) (v : V) (t : Nat) : (st.put d v).tm[t]? = if d = some t ∧ t < st.tm.length then some v else st.tm[t]? := by
  cases d with
  | none => simp [St.put]
  | some d =>
    simp only [St.put, Option.some.injEq]
    rw [List.getElem?_set]
    by_cases e : d = t
    · subst e
      by_cases h : d < st.tm.length
      · simp [h]
      · simp [h]
    · simp [e]
theorem put_len (st : St) (d : Option Nat) (v : V) : (st.put d v).tm.length = st.tm.length := by cases d <;> simp [St.put]
theorem put_own (st : St) (d : Option Nat) (v : V) : (st.put d v).own = st.own := by cases d <;> rfl
theorem on_tm (r : Rec) (m : MOp) (st : St) (t : Nat) : (r.on m st).tm[t]? = if m.d = some t ∧ t < st.tm.length then some r.out.v else st.tm[t]? := put_tm _ _ _ _
theorem on_len (r : Rec) (m : MOp) (st : St) : (r.on m st).tm.length = st.tm.length := put_len _ _ _
theorem on_own (r : Rec) (m : MOp) (st : St) (k : Nat) : look k (r.on m st).own = match r.out.u with
    | some p => if k = p.1 then some p.2 else look k st.own
    | none => look k st.own := by
  show look k ((⟨st.tm, r.out.own st.own⟩ : St).put m.d r.out.v).own = _
  rw [put_own]
  unfold Out.own
  split
  · rename_i e; simp [e]
  · rename_i p e; rw [e]; exact look_setOwn _ _ _ _

theorem aft_len (X : Nat → Bool) : ∀ (ms : List MOp) (rs : List Rec) (i : Nat) (st : St), (aft X i ms rs st).tm.length = st.tm.length := by
  intro ms
  induction ms with
  | nil => intro rs i st; simp [aft]
  | cons m ms ih =>
    intro rs i st
    cases rs with
    | nil => simp [aft]
    | cons r rs =>
      simp only [aft]
      rw [ih]
      split
      · exact on_len r m st
      · rfl
/-- a slot that only those write that both have, or neither -/
theorem aft_tm (X Y : Nat → Bool) (t : Nat) : ∀ (ms : List MOp) (rs : List Rec) (i : Nat) (st st2 : St), st.tm.length = st2.tm.length → st.tm[t]? = st2.tm[t]? →
    (∀ (n : Nat) (m : MOp), ms[n]? = some m → X (i + n) ≠ Y (i + n) → m.d ≠ some t) → (aft X i ms rs st).tm[t]? = (aft Y i ms rs st2).tm[t]? := by
  intro ms
  induction ms with
  | nil => intro rs i st st2 _ h _; simpa [aft] using h
  | cons m ms ih =>
    intro rs i st st2 hl h hd
    cases rs with
    | nil => simpa [aft] using h
    | cons r rs =>
      simp only [aft]
      refine ih rs (i + 1) _ _ ?_ ?_ fun n m' hm hne => hd (n + 1) m' (by simpa using hm) (by rw [show i + (n + 1) = i + 1 + n by omega]; exact hne)
      · split <;> split <;> simp [on_len, hl]
      · have h0 := hd 0 m rfl
        cases hx : X i <;> cases hy : Y i <;> simp [hx, hy] at h0 ⊢
        · exact h
        · rw [on_tm]; simp [h0, h]
        · rw [on_tm]; simp [h0, h]
        · rw [on_tm, on_tm, hl, h]
theorem aft_own (X Y : Nat → Bool) (k : Nat) : ∀ (ms : List MOp) (rs : List Rec) (i : Nat) (st st2 : St), look k st.own = look k st2.own →
    (∀ (n : Nat) (r : Rec), rs[n]? = some r → X (i + n) ≠ Y (i + n) → ∀ b, r.out.u ≠ some (k, b)) → look k (aft X i ms rs st).own = look k (aft Y i ms rs st2).own := by
  intro ms
  induction ms with
  | nil => intro rs i st st2 h _; simpa [aft] using h
  | cons m ms ih =>
    intro rs i st st2 h hd
    cases rs with
    | nil => simpa [aft] using h
    | cons r rs =>
      simp only [aft]
      refine ih rs (i + 1) _ _ ?_ fun n m' hm hne => hd (n + 1) m' (by simpa using hm) (by rw [show i + (n + 1) = i + 1 + n by omega]; exact hne)
      have h0 := hd 0 r rfl
      have nw : (∀ b, r.out.u ≠ some (k, b)) → ∀ s : St, look k (r.on m s).own = look k s.own := fun hb s => by
        rw [on_own]
        split
        · rename_i p e
          rw [if_neg]
          intro e2
          exact hb p.2 (by rw [e, e2])
        · rfl
      cases hx : X i <;> cases hy : Y i <;> simp [hx, hy] at h0 ⊢
      · exact h
      · rw [nw (fun b e => h0 b e)]; exact h
      · rw [nw (fun b e => h0 b e)]; exact h
      · rw [on_own, on_own, h]
theorem aft_none (X : Nat → Bool) : ∀ (ms : List MOp) (rs : List Rec) (i : Nat) (st : St), (∀ n, X (i + n) = false) → aft X i ms rs st = st := by
  intro ms
  induction ms with
  | nil => intro rs i st _; simp [aft]
  | cons m ms ih =>
    intro rs i st h
    cases rs with
    | nil => simp [aft]
    | cons r rs =>
      have h0 := h 0
      simp only [Nat.add_zero] at h0
      simp only [aft, h0, Bool.false_eq_true, if_false]
      exact ih rs (i + 1) st fun n => by rw [show i + 1 + n = i + (n + 1) by omega]; exact h _
/-- the last one that writes a slot -/
theorem aft_tm_last (X : Nat → Bool) (t : Nat) : ∀ (n : Nat) (ms : List MOp) (rs : List Rec) (i : Nat) (st : St) (m : MOp) (r : Rec), ms[n]? = some m → rs[n]? = some r → X (i + n) = true → m.d = some t → t < st.tm.length →
    (∀ (n' : Nat) (m' : MOp), n < n' → ms[n']? = some m' → X (i + n') = true → m'.d ≠ some t) → (aft X i ms rs st).tm[t]? = some r.out.v := by
  intro n
  induction n with
  | zero =>
    intro ms rs i st m r hm hr hx hd ht hlast
    cases ms with
    | nil => simp at hm
    | cons m0 ms =>
      cases rs with
      | nil => simp at hr
      | cons r0 rs =>
        simp at hm hr; subst hm hr
        simp only [Nat.add_zero] at hx
        simp only [aft, hx, if_true]
        have h1 := aft_tm X (fun _ => false) t ms rs (i + 1) (r0.on m0 st) (r0.on m0 st) rfl rfl fun n m' hm' hne => by
          refine hlast (n + 1) m' (by omega) (by simpa using hm') ?_
          rw [show i + (n + 1) = i + 1 + n by omega]
          cases e : X (i + 1 + n)
          · exact absurd e hne
          · rfl
        rw [h1, aft_none _ _ _ _ _ (fun _ => rfl), on_tm]
        simp [hd, ht]
  | succ n ih =>
    intro ms rs i st m r hm hr hx hd ht hlast
    cases ms with
    | nil => simp at hm
    | cons m0 ms =>
      cases rs with
      | nil => simp at hr
      | cons r0 rs =>
        simp only [aft]
        refine ih ms rs (i + 1) _ m r (by simpa using hm) (by simpa using hr) (by rw [show i + 1 + n = i + (n + 1) by omega]; exact hx) hd ?_ fun n' m' hlt hm' hx' => ?_
        · split
          · rw [on_len]; exact ht
          · exact ht
        · exact hlast (n' + 1) m' (by omega) (by simpa using hm') (by rw [show i + (n' + 1) = i + 1 + n' by omega]; exact hx')
theorem aft_own_last (X : Nat → Bool) (k : Nat) (b : Blk) : ∀ (n : Nat) (ms : List MOp) (rs : List Rec) (i : Nat) (st : St) (m : MOp) (r : Rec), ms[n]? = some m → rs[n]? = some r → X (i + n) = true → r.out.u = some (k, b) →
    (∀ (n' : Nat) (r' : Rec), n < n' → rs[n']? = some r' → X (i + n') = true → ∀ b', r'.out.u ≠ some (k, b')) → look k (aft X i ms rs st).own = some b := by
  intro n
  induction n with
  | zero =>
    intro ms rs i st m r hm hr hx hd hlast
    cases ms with
    | nil => simp at hm
    | cons m0 ms =>
      cases rs with
      | nil => simp at hr
      | cons r0 rs =>
        simp at hm hr; subst hm hr
        simp only [Nat.add_zero] at hx
        simp only [aft, hx, if_true]
        have h1 := aft_own X (fun _ => false) k ms rs (i + 1) (r0.on m0 st) (r0.on m0 st) rfl fun n m' hm' hne => by
          refine hlast (n + 1) m' (by omega) (by simpa using hm') ?_
          rw [show i + (n + 1) = i + 1 + n by omega]
          cases e : X (i + 1 + n)
          · exact absurd e hne
          · rfl
        rw [h1, aft_none _ _ _ _ _ (fun _ => rfl), on_own, hd]
        simp
  | succ n ih =>
    intro ms rs i st m r hm hr hx hd hlast
    cases ms with
    | nil => simp at hm
    | cons m0 ms =>
      cases rs with
      | nil => simp at hr
      | cons r0 rs =>
        simp only [aft]
        refine ih ms rs (i + 1) _ m r (by simpa using hm) (by simpa using hr) (by rw [show i + 1 + n = i + (n + 1) by omega]; exact hx) hd fun n' m' hlt hm' hx' => ?_
        exact hlast (n' + 1) m' (by omega) (by simpa using hm') (by rw [show i + (n' + 1) = i + 1 + n' by omega]; exact hx')

/-- what is known of one, where the text's order comes to it -/
def NodeOk (Γ : Env) (m : MOp) (r : Rec) (k : List Nat) (st : St) : Prop :=
  (r.ran = true ∧ (m.g = none ∨ ∃ t b, m.g = some (t, b) ∧ st.tm[t]? = some (.t (.bool b))) ∧ Local Γ m.d m.op st.tm st.own r.out ∧ k = opKeys st.tm m.op) ∨
  (r.ran = false ∧ (∃ t b, m.g = some (t, b) ∧ (st.tm[t]? = some (.t (.bool (!b))) ∨ ∃ l, st.tm[t]? = some (.t (.tup l)))) ∧ r.out = ⟨.t .undef, none⟩)
theorem Chain.at {Γ : Env} {ms : List MOp} {rs : List Rec} {ks : List (List Nat)} {st st' : St} (h : Chain Γ ms rs ks st st') : ∀ (n i : Nat) (m : MOp) (r : Rec) (k : List Nat), ms[n]? = some m → rs[n]? = some r → ks[n]? = some k →
    NodeOk Γ m r k (aft (fun j => decide (j < i + n)) i ms rs st) := by
  induction h with
  | nil => intro n i m r k hm; simp at hm
  | ran m u ms rs ks st st' hg hl h ih =>
    intro n i m' r k hm hr hk
    cases n with
    | zero =>
      simp at hm hr hk; subst hm hr hk
      rw [aft_none _ _ _ _ _ (fun n => by simp)]
      exact .inl ⟨rfl, hg, hl, rfl⟩
    | succ n =>
      simp only [aft]
      rw [if_pos (by simp)]
      have := ih n (i + 1) m' r k (by simpa using hm) (by simpa using hr) (by simpa using hk)
      rw [show i + 1 + n = i + (n + 1) by omega] at this
      exact this
  | skip m t b ms rs ks st st' hg hv hd h ih =>
    intro n i m' r k hm hr hk
    cases n with
    | zero =>
      simp at hm hr hk; subst hm hr hk
      rw [aft_none _ _ _ _ _ (fun n => by simp)]
      exact .inr ⟨rfl, ⟨t, b, hg, hv⟩, rfl⟩
    | succ n =>
      simp only [aft]
      rw [if_pos (by simp)]
      have := ih n (i + 1) m' r k (by simpa using hm) (by simpa using hr) (by simpa using hk)
      rw [show i + 1 + n = i + (n + 1) by omega] at this
      exact this
end Go.Mx
