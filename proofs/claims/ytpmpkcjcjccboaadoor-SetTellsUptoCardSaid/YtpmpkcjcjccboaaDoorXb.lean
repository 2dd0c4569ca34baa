/-
  WHAT EACH PART OF A STEP GIVES, AS PLAIN FACTS.
-/
import Derived.Test.YtpmpkcjcjccboaaDoorXa
set_option linter.unusedVariables false
namespace Go.Nx

def look (k : Nat) : Own → Option Blk
  | [] => none
  | p :: r => if p.1 = k then some p.2 else look k r
def upd (k : Nat) (b : Blk) : Own → Own
  | [] => []
  | p :: r => if p.1 = k then (p.1, b) :: r else p :: upd k b r
def putN {α : Type} : List α → Nat → List α → List α
  | cs, _, [] => cs
  | [], _, _ :: _ => []
  | _ :: r, 0, v :: vs => v :: putN r 0 vs
  | x :: r, o + 1, v :: vs => x :: putN r o (v :: vs)
theorem getK_elim {α : Type} {l : List α} {n : Nat} {K : α → Prop} (h : getK l n K) : ∃ v, l[n]? = some v ∧ K v := by
  induction l generalizing n with
  | nil => cases n <;> exact h.elim
  | cons x r ih =>
    cases n with
    | zero => exact ⟨x, rfl, h⟩
    | succ n => simpa using ih h
theorem getK_mk {α : Type} {l : List α} {n : Nat} {K : α → Prop} {v : α} (h : l[n]? = some v) (hK : K v) : getK l n K := by
  induction l generalizing n with
  | nil => simp at h
  | cons x r ih =>
    cases n with
    | zero => simp at h; subst h; exact hK
    | succ n => exact ih (by simpa using h)
theorem setK_elim {α : Type} {l : List α} {n : Nat} {v : α} {K : List α → Prop} (h : setK l n v K) : n < l.length ∧ K (l.set n v) := by
  induction l generalizing n K with
  | nil => cases n <;> exact h.elim
  | cons x r ih =>
    cases n with
    | zero => exact ⟨by simp, h⟩
    | succ n => obtain ⟨h1, h2⟩ := ih h; exact ⟨by simpa using h1, h2⟩
theorem setK_mk {α : Type} {l : List α} {n : Nat} {v : α} {K : List α → Prop} (h : n < l.length) (hK : K (l.set n v)) : setK l n v K := by
  induction l generalizing n K with
  | nil => simp at h
  | cons x r ih =>
    cases n with
    | zero => exact hK
    | succ n => exact ih (K := fun r' => K (x :: r')) (by simpa using h) hK
theorem lkupK_elim {k : Nat} {own : Own} {K : Blk → Prop} (h : lkupK k own K) : ∃ b, look k own = some b ∧ K b := by
  induction own with
  | nil => exact h.elim
  | cons p r ih =>
    obtain ⟨j, b⟩ := p
    simp only [lkupK] at h
    simp only [look]
    by_cases e : j = k
    · subst e
      rw [Nat.beq_refl] at h
      exact ⟨b, by simp, h⟩
    · have : Nat.beq j k = false := by
        rw [← Bool.not_eq_true, Nat.beq_eq]; exact e
      rw [this] at h
      obtain ⟨c, hc, hK⟩ := ih h
      exact ⟨c, by simp [e, hc], hK⟩
theorem lkupK_mk {k : Nat} {own : Own} {K : Blk → Prop} {b : Blk} (h : look k own = some b) (hK : K b) : lkupK k own K := by
  induction own with
  | nil => simp [look] at h
  | cons p r ih =>
    obtain ⟨j, c⟩ := p
    simp only [look] at h
    simp only [lkupK]
    by_cases e : j = k
    · subst e
      rw [Nat.beq_refl]
      simp at h; subst h; exact hK
    · have : Nat.beq j k = false := by
        rw [← Bool.not_eq_true, Nat.beq_eq]; exact e
      rw [this]
      exact ih (by simpa [e] using h)
theorem updK_elim {k : Nat} {b : Blk} {own : Own} {K : Own → Prop} (h : updK k b own K) : K (upd k b own) := by
  induction own generalizing K with
  | nil => exact h.elim
  | cons p r ih =>
    obtain ⟨j, c⟩ := p
    simp only [updK] at h
    simp only [upd]
    by_cases e : j = k
    · subst e
      rw [Nat.beq_refl] at h
      simpa using h
    · have : Nat.beq j k = false := by
        rw [← Bool.not_eq_true, Nat.beq_eq]; exact e
      rw [this] at h
      simpa [e] using ih h
theorem updK_mk {k : Nat} {b c : Blk} {own : Own} {K : Own → Prop} (h : look k own = some c) (hK : K (upd k b own)) : updK k b own K := by
  induction own generalizing K with
  | nil => simp [look] at h
  | cons p r ih =>
    obtain ⟨j, c'⟩ := p
    simp only [look] at h
    simp only [updK]
    simp only [upd] at hK
    by_cases e : j = k
    · subst e
      rw [Nat.beq_refl]
      simpa using hK
    · have : Nat.beq j k = false := by
        rw [← Bool.not_eq_true, Nat.beq_eq]; exact e
      rw [this]
      exact ih (K := fun r' => K ((j, c') :: r')) (by simpa [e] using h) (by simpa [e] using hK)
theorem freshK_elim {k : Nat} {own : Own} {K : Prop} (h : freshK k own K) : look k own = none ∧ K := by
  induction own with
  | nil => exact ⟨rfl, h⟩
  | cons p r ih =>
    obtain ⟨j, c⟩ := p
    simp only [freshK] at h
    simp only [look]
    by_cases e : j = k
    · subst e
      rw [Nat.beq_refl] at h
      exact h.elim
    · have : Nat.beq j k = false := by
        rw [← Bool.not_eq_true, Nat.beq_eq]; exact e
      rw [this] at h
      obtain ⟨h1, h2⟩ := ih h
      exact ⟨by simp [e, h1], h2⟩
theorem freshK_mk {k : Nat} {own : Own} {K : Prop} (h : look k own = none) (hK : K) : freshK k own K := by
  induction own with
  | nil => exact hK
  | cons p r ih =>
    obtain ⟨j, c⟩ := p
    simp only [look] at h
    simp only [freshK]
    by_cases e : j = k
    · subst e; simp at h
    · have : Nat.beq j k = false := by
        rw [← Bool.not_eq_true, Nat.beq_eq]; exact e
      rw [this]
      exact ih (by simpa [e] using h)
theorem look_upd {k : Nat} {b c : Blk} {own : Own} (h : look k own = some c) (j : Nat) : look j (upd k b own) = if j = k then some b else look j own := by
  induction own with
  | nil => simp [look] at h
  | cons p r ih =>
    obtain ⟨i, c'⟩ := p
    simp only [look] at h
    simp only [upd]
    by_cases e : i = k
    · subst e
      by_cases e2 : j = i
      · subst e2; simp [look]
      · simp [look, e2, Ne.symm e2]
    · simp only [e, if_false] at h ⊢
      simp only [look]
      by_cases e3 : i = j
      · subst e3; simp [e]
      · simp [e3, ih h]
theorem tagK_elim {l : List T} {K : List V → Prop} (h : tagK l K) : K (l.map .t) := by
  induction l generalizing K with
  | nil => exact h
  | cons x r ih => exact ih (K := fun l => K (.t x :: l)) h
theorem takeK_elim {α : Type} {l : List α} {o n : Nat} {K : List α → Prop} (h : takeK l o n K) : (n = 0 ∨ o + n ≤ l.length) ∧ K ((l.drop o).take n) := by
  induction l generalizing o n K with
  | nil =>
    cases n with
    | zero => cases o <;> exact ⟨.inl rfl, by simpa [takeK] using h⟩
    | succ n => cases o <;> exact h.elim
  | cons x r ih =>
    cases n with
    | zero => cases o <;> exact ⟨.inl rfl, by simpa [takeK] using h⟩
    | succ n =>
      cases o with
      | zero =>
        obtain ⟨h1, h2⟩ := ih (o := 0) (n := n) h
        refine ⟨.inr ?_, by simpa using h2⟩
        simp only [List.length_cons]
        rcases h1 with h1 | h1 <;> omega
      | succ o =>
        obtain ⟨h1, h2⟩ := ih (o := o) (n := n + 1) h
        refine ⟨.inr ?_, by simpa using h2⟩
        simp only [List.length_cons]
        rcases h1 with h1 | h1 <;> omega
theorem putN_length {α : Type} (cs : List α) (o : Nat) (l : List α) : (l = [] ∨ o + l.length ≤ cs.length) → (putN cs o l).length = cs.length := by
  induction cs generalizing o l with
  | nil => intro h; cases l <;> cases o <;> simp [putN]
  | cons x r ih =>
    intro h
    cases l with
    | nil => cases o <;> simp [putN]
    | cons v vs =>
      simp at h
      cases o with
      | zero => simp only [putN, List.length_cons]; rw [ih 0 vs (by cases vs <;> simp_all)]
      | succ o => simp only [putN, List.length_cons]; rw [ih o (v :: vs) (by simp; omega)]
theorem putN_get {α : Type} (cs : List α) (o : Nat) (l : List α) (i : Nat) (h : o + l.length ≤ cs.length) :
    (putN cs o l)[i]? = if o ≤ i ∧ i < o + l.length then l[i - o]? else cs[i]? := by
  induction cs generalizing o l i with
  | nil => simp at h; obtain ⟨rfl, rfl⟩ := h; simp [putN]
  | cons x r ih =>
    cases l with
    | nil =>
      have : ¬ (o ≤ i ∧ i < o + ([] : List α).length) := by simp
      rw [if_neg this]
      cases o <;> simp [putN]
    | cons v vs =>
      simp at h
      cases o with
      | zero =>
        cases i with
        | zero => simp [putN]
        | succ i =>
          simp only [putN, List.getElem?_cons_succ]
          rw [ih 0 vs i (by omega)]
          simp
      | succ o =>
        cases i with
        | zero => simp [putN]
        | succ i =>
          simp only [putN, List.getElem?_cons_succ]
          rw [ih o (v :: vs) i (by simp; omega)]
          by_cases c : o ≤ i ∧ i < o + (v :: vs).length
          · rw [if_pos c, if_pos (by simp at c ⊢; omega)]
            congr 1; omega
          · rw [if_neg c, if_neg (by simp at c ⊢; omega)]
theorem lenK_elim {α : Type} {l : List α} {n : Nat} {K : Prop} (h : lenK l n K) : l.length = n ∧ K := by
  induction l generalizing n with
  | nil => cases n with
    | zero => exact ⟨rfl, h⟩
    | succ n => exact h.elim
  | cons x r ih => cases n with
    | zero => exact h.elim
    | succ n => obtain ⟨h1, h2⟩ := ih h; exact ⟨by simp [h1], h2⟩
theorem lenK_mk {α : Type} {l : List α} {n : Nat} {K : Prop} (h : l.length = n) (hK : K) : lenK l n K := by
  subst h
  induction l with
  | nil => exact hK
  | cons x r ih => exact ih
theorem natK_elim {b : Bool} {K : Prop} (h : natK b K) : b = true ∧ K := by cases b <;> first | exact h.elim | exact ⟨rfl, h⟩
def evF (Γ : Env) (tm : List V) : Opd → Option V
  | .t i => tm[i]?
  | .k x => some (.t x)
  | .g i => (Γ.gl i).map fun cs => .t (.ref cs)
theorem evK_elim {Γ : Env} {tm : List V} {x : Opd} {K : V → Prop} (h : evK Γ tm x K) : ∃ v, evF Γ tm x = some v ∧ K v := by
  cases x with
  | t i => exact getK_elim h
  | k x => exact ⟨_, rfl, h⟩
  | g i =>
    simp only [evK] at h
    cases e : Γ.gl i with
    | none => rw [e] at h; exact h.elim
    | some cs => rw [e] at h; exact ⟨_, by simp [evF, e], h⟩
theorem evK_mk {Γ : Env} {tm : List V} {x : Opd} {K : V → Prop} {v : V} (h : evF Γ tm x = some v) (hK : K v) : evK Γ tm x K := by
  cases x with
  | t i => exact getK_mk h hK
  | k x => simp [evF] at h; subst h; exact hK
  | g i =>
    simp only [evF] at h
    simp only [evK]
    cases e : Γ.gl i with
    | none => simp [e] at h
    | some cs => simp [e] at h; subst h; exact hK
theorem evsK_elim {Γ : Env} {tm : List V} : ∀ {xs : List Opd} {K : List V → Prop}, evsK Γ tm xs K → ∃ vs, vs.length = xs.length ∧ (∀ (i : Nat) (x : Opd), xs[i]? = some x → ∃ v, vs[i]? = some v ∧ evF Γ tm x = some v) ∧ K vs
  | [], K, h => ⟨[], rfl, fun i x hx => by simp at hx, h⟩
  | x :: r, K, h => by
    obtain ⟨v, hv, h⟩ := evK_elim h
    obtain ⟨vs, h1, h2, h3⟩ := evsK_elim h
    refine ⟨v :: vs, by simp [h1], fun i y hy => ?_, h3⟩
    cases i with
    | zero => simp at hy; subst hy; exact ⟨v, rfl, hv⟩
    | succ i => simpa using h2 i y (by simpa using hy)
theorem evsK_mk {Γ : Env} {tm : List V} : ∀ {xs : List Opd} {vs : List V} {K : List V → Prop}, vs.length = xs.length → (∀ (i : Nat) (x : Opd), xs[i]? = some x → ∃ v, vs[i]? = some v ∧ evF Γ tm x = some v) → K vs → evsK Γ tm xs K
  | [], vs, K, hl, _, hK => by
    have : vs = [] := List.eq_nil_of_length_eq_zero (by simpa using hl)
    subst this; exact hK
  | x :: r, vs, K, hl, h, hK => by
    cases vs with
    | nil => simp at hl
    | cons v vs =>
      obtain ⟨v', h1, h2⟩ := h 0 x rfl
      simp at h1; subst h1
      exact evK_mk h2 (evsK_mk (K := fun l => K (v :: l)) (by simpa using hl) (fun i y hy => by simpa using h (i + 1) y (by simpa using hy)) hK)
def St.put (st : St) (d : Option Nat) (v : V) : St := match d with
  | none => st
  | some d => ⟨st.tm.set d v, st.own⟩
theorem putK_elim {st : St} {d : Option Nat} {v : V} {K : St → Prop} (h : putK st d v K) : (∀ i, d = some i → i < st.tm.length) ∧ K (st.put d v) := by
  cases d with
  | none => exact ⟨by simp, h⟩
  | some d =>
    obtain ⟨tm, own⟩ := st
    obtain ⟨h1, h2⟩ := setK_elim h
    exact ⟨by simpa using h1, h2⟩
theorem putK_mk {st : St} {d : Option Nat} {v : V} {K : St → Prop} (h : ∀ i, d = some i → i < st.tm.length) (hK : K (st.put d v)) : putK st d v K := by
  cases d with
  | none => exact hK
  | some d =>
    obtain ⟨tm, own⟩ := st
    exact setK_mk (h d rfl) hK

/-! ### parts of steps -/
section
variable {dr : Bool} {own : Own} {log : Log} {K : V → Own → Log → Prop}
theorem natP_elim {b : Bool} {p : Pg} (h : run dr (natP b p) own log K) : b = true ∧ run dr p own log K := by
  cases b
  · exact h.elim
  · exact ⟨rfl, h⟩
theorem getP_elim {α : Type} {l : List α} {n : Nat} {f : α → Pg} (h : run dr (getP l n f) own log K) : ∃ x, l[n]? = some x ∧ run dr (f x) own log K := by
  induction l generalizing n with
  | nil => cases n <;> exact h.elim
  | cons x r ih =>
    cases n with
    | zero => exact ⟨x, rfl, h⟩
    | succ n => simpa using ih h
theorem takeP_elim {α : Type} {l : List α} {o n : Nat} {f : List α → Pg} (h : run dr (takeP l o n f) own log K) : (n = 0 ∨ o + n ≤ l.length) ∧ run dr (f ((l.drop o).take n)) own log K := by
  induction l generalizing o n f with
  | nil =>
    cases n with
    | zero => cases o <;> exact ⟨.inl rfl, by simpa [takeP] using h⟩
    | succ n => cases o <;> exact h.elim
  | cons x r ih =>
    cases n with
    | zero => cases o <;> exact ⟨.inl rfl, by simpa [takeP] using h⟩
    | succ n =>
      cases o with
      | zero =>
        obtain ⟨h1, h2⟩ := ih (o := 0) (n := n) h
        refine ⟨.inr ?_, by simpa using h2⟩
        simp only [List.length_cons]
        rcases h1 with h1 | h1 <;> omega
      | succ o =>
        obtain ⟨h1, h2⟩ := ih (o := o) (n := n + 1) h
        refine ⟨.inr ?_, by simpa using h2⟩
        simp only [List.length_cons]
        rcases h1 with h1 | h1 <;> omega
theorem putNP_elim {α : Type} {cs : List α} {o : Nat} {l : List α} {f : List α → Pg} (h : run dr (putNP cs o l f) own log K) : (l = [] ∨ o + l.length ≤ cs.length) ∧ run dr (f (putN cs o l)) own log K := by
  induction cs generalizing o l f with
  | nil =>
    cases l with
    | nil => cases o <;> exact ⟨.inl rfl, by simpa [putN, putNP] using h⟩
    | cons v vs => cases o <;> exact h.elim
  | cons x r ih =>
    cases l with
    | nil => cases o <;> exact ⟨.inl rfl, by simpa [putN, putNP] using h⟩
    | cons v vs =>
      cases o with
      | zero =>
        obtain ⟨h1, h2⟩ := ih (o := 0) (l := vs) h
        refine ⟨.inr ?_, by simpa [putN] using h2⟩
        simp only [List.length_cons]
        rcases h1 with rfl | h1
        · simp
        · omega
      | succ o =>
        obtain ⟨h1, h2⟩ := ih (o := o) (l := v :: vs) h
        refine ⟨.inr ?_, by simpa [putN] using h2⟩
        simp only [List.length_cons] at h1 ⊢
        rcases h1 with h1 | h1
        · cases h1
        · omega
theorem lenP_elim {α : Type} {l : List α} {n : Nat} {p : Pg} (h : run dr (lenP l n p) own log K) : l.length = n ∧ run dr p own log K := by
  induction l generalizing n with
  | nil => cases n with
    | zero => exact ⟨rfl, h⟩
    | succ n => exact h.elim
  | cons x r ih => cases n with
    | zero => exact h.elim
    | succ n => obtain ⟨h1, h2⟩ := ih h; exact ⟨by simp [h1], h2⟩
theorem oneP_elim {x : T} {p : Pg} (h : run dr (oneP x p) own log K) : x.one = true ∧ run dr p own log K := by
  cases x <;> first | exact ⟨rfl, h⟩ | exact h.elim
theorem onesP_elim {l : List T} {p : Pg} (h : run dr (onesP l p) own log K) : (∀ x ∈ l, x.one = true) ∧ run dr p own log K := by
  induction l with
  | nil => exact ⟨by simp, h⟩
  | cons x r ih =>
    obtain ⟨h1, h2⟩ := oneP_elim h
    obtain ⟨h3, h4⟩ := ih h2
    exact ⟨by simpa [h1] using h3, h4⟩
/-- of one cell -/
def V.one : V → Bool
  | .agg _ | .tup _ | .dead => false
  | .t x => x.one
  | _ => true
theorem oneVP_elim {v : V} {p : Pg} (h : run dr (oneVP v p) own log K) : v.one = true ∧ run dr p own log K := by
  cases v <;> first | exact ⟨rfl, h⟩ | exact h.elim | exact oneP_elim h
theorem onesVP_elim {l : List V} {p : Pg} (h : run dr (onesVP l p) own log K) : (∀ v ∈ l, v.one = true) ∧ run dr p own log K := by
  induction l with
  | nil => exact ⟨by simp, h⟩
  | cons x r ih =>
    obtain ⟨h1, h2⟩ := oneVP_elim h
    obtain ⟨h3, h4⟩ := ih h2
    exact ⟨by simpa [h1] using h3, h4⟩
theorem tagP_elim {l : List T} {f : List V → Pg} (h : run dr (tagP l f) own log K) : run dr (f (l.map .t)) own log K := by
  induction l generalizing f with
  | nil => exact h
  | cons x r ih => exact ih (f := fun l => f (.t x :: l)) h
def V.cells : V → List V
  | .t x => x.cells.map .t
  | .agg l => l
  | v => [v]
/-- may its cells be taken? -/
def V.flat : V → Prop
  | .t x => x.one = true ∨ ∃ cs, x = .agg cs
  | .tup _ | .dead => False
  | _ => True
theorem cellsP_elim {v : V} {f : List V → Pg} (h : run dr (cellsP v f) own log K) : v.flat ∧ (∀ c ∈ v.cells, c.one = true) ∧ run dr (f v.cells) own log K := by
  cases v with
  | t x =>
    cases x <;> first
      | exact h.elim
      | exact ⟨.inl rfl, by simp [V.cells, T.cells, V.one, T.one], h⟩
      | (obtain ⟨h1, h2⟩ := onesP_elim h
         exact ⟨.inr ⟨_, rfl⟩, by simpa [V.cells, T.cells, V.one] using h1, tagP_elim h2⟩)
  | agg l => obtain ⟨h1, h2⟩ := onesVP_elim h; exact ⟨trivial, h1, h2⟩
  | tup l => exact h.elim
  | dead => exact h.elim
  | ptr | eptr | sl | cl | ce | mp | fn => exact ⟨trivial, by simp [V.cells, V.one], h⟩
theorem cellsTP_elim {x : T} {f : List T → Pg} (h : run dr (cellsTP x f) own log K) : (x.one = true ∨ ∃ cs, x = .agg cs) ∧ (∀ y ∈ x.cells, y.one = true) ∧ run dr (f x.cells) own log K := by
  cases x <;> first
    | exact h.elim
    | (obtain ⟨h1, h2⟩ := onesP_elim h; exact ⟨.inr ⟨_, rfl⟩, h1, h2⟩)
    | exact ⟨.inl rfl, by simp [T.cells, T.one], h⟩
theorem unT_some {l : List V} {ts : List T} (h : unT l = some ts) : l = ts.map .t := by
  induction l generalizing ts with
  | nil => simp [unT] at h; subst h; rfl
  | cons v r ih =>
    cases v <;> simp [unT] at h
    split at h
    · rename_i l' h1; cases h; simp [← ih h1]
    · cases h
theorem rdP_elim {cs : List V} {off : Nat} {n : Option Nat} {f : V → Pg} (h : run dr (rdP cs off n f) own log K) :
    (n = none ∧ ∃ v, cs[off]? = some v ∧ run dr (f v) own log K) ∨ (∃ m, n = some m ∧ (m = 0 ∨ off + m ≤ cs.length) ∧ run dr (f (aggV ((cs.drop off).take m))) own log K) := by
  cases n with
  | none => obtain ⟨x, h1, h2⟩ := getP_elim h; exact .inl ⟨rfl, x, h1, h2⟩
  | some m => obtain ⟨h1, h2⟩ := takeP_elim h; exact .inr ⟨m, rfl, h1, h2⟩
theorem rdTP_elim {cs : List T} {off : Nat} {n : Option Nat} {f : V → Pg} (h : run dr (rdTP cs off n f) own log K) :
    (n = none ∧ ∃ x, cs[off]? = some x ∧ run dr (f (.t x)) own log K) ∨ (∃ m, n = some m ∧ (m = 0 ∨ off + m ≤ cs.length) ∧ run dr (f (.t (.agg ((cs.drop off).take m)))) own log K) := by
  cases n with
  | none => obtain ⟨x, h1, h2⟩ := getP_elim h; exact .inl ⟨rfl, x, h1, h2⟩
  | some m => obtain ⟨h1, h2⟩ := takeP_elim h; exact .inr ⟨m, rfl, h1, h2⟩
theorem intP_elim {v : V} {f : Int → Pg} (h : run dr (intP v f) own log K) : ∃ k z, v = .t (.int k z) ∧ run dr (f z) own log K := by
  unfold intP at h
  split at h
  · exact ⟨_, _, rfl, h⟩
  · exact h.elim
theorem req_elim {c : Prop} [Decidable c] {p : Pg} (h : run dr (.req c p) own log K) : c ∧ run dr p own log K := by rw [run_req] at h; exact reqK_elim h
theorem nth_elim {xs : List T} {i : Int} {f : T → Pg} (h : run dr (.nth xs i f) own log K) : 0 ≤ i ∧ ∃ x, xs[i.toNat]? = some x ∧ run dr (f x) own log K := by rw [run_nth] at h; exact nthK_elim h
theorem rd_elim {k : Nat} {f : Blk → Pg} (h : run dr (.rd k f) own log K) : ∃ b, look k own = some b ∧ run dr (f b) own ((k, false) :: log) K := by rw [run_rd] at h; exact lkupK_elim h
theorem wr_elim {k : Nat} {b : Blk} {p : Pg} (h : run dr (.wr k b p) own log K) : run dr p (upd k b own) ((k, true) :: log) K := by rw [run_wr] at h; exact updK_elim h
theorem new_elim {k : Nat} {b : Blk} {p : Pg} (h : run dr (.new k b p) own log K) : look k own = none ∧ run dr p ((k, b) :: own) ((k, true) :: log) K := by rw [run_new] at h; exact freshK_elim h
theorem br_elim {b : Bool} {p q : Pg} (h : run dr (.br b p q) own log K) : (b = true ∧ run dr p own log K) ∨ (b = false ∧ run dr q own log K) := by rw [run_br] at h; exact brK_elim h
theorem alt_elim {c : Prop} [Decidable c] {p q : Pg} (h : run dr (.alt c p q) own log K) : run dr p own log K ∧ (c → run dr q own log K) := by
  rw [run_alt] at h
  cases dr
  · exact altK_elim h
  · exact h.elim
end
end Go.Nx
