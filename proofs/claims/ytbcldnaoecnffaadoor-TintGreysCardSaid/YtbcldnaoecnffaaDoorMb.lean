/-
  WHAT EACH PART OF A STEP GIVES, AS PLAIN FACTS.
-/
import Derived.Test.YtbcldnaoecnffaaDoorMa
set_option linter.unusedVariables false
namespace Go.Mx

def look (k : Nat) : List (Nat × Blk) → Option Blk
  | [] => none
  | p :: r => if p.1 = k then some p.2 else look k r
def upd (k : Nat) (b : Blk) : List (Nat × Blk) → List (Nat × Blk)
  | [] => []
  | p :: r => if p.1 = k then (p.1, b) :: r else p :: upd k b r
def putN {α : Type} : List α → Nat → List α → List α
  | cs, _, [] => cs
  | [], _, _ :: _ => []
  | _ :: r, 0, v :: vs => v :: putN r 0 vs
  | x :: r, o + 1, v :: vs => x :: putN r o (v :: vs)

theorem getK_elim {α : Type} {l : List α} {n : Nat} {K : α → Prop} (h : getK l n K) : ∃ v, l[n]? = some v ∧ K v := by
  induction l generalizing n with
  | nil => cases n <;> exact h.elim
  | cons x r ih =>
    cases n with
    | zero => exact ⟨x, rfl, h⟩
    | succ n => simpa using ih h
theorem getK_mk {α : Type} {l : List α} {n : Nat} {K : α → Prop} {v : α} (h : l[n]? = some v) (hK : K v) : getK l n K := by
  induction l generalizing n with
  | nil => simp at h
  | cons x r ih =>
    cases n with
    | zero => simp at h; subst h; exact hK
    | succ n => exact ih (by simpa using h)
theorem setK_elim {α : Type} {l : List α} {n : Nat} {v : α} {K : List α → Prop} (h : setK l n v K) : n < l.length ∧ K (l.set n v) := by
  induction l generalizing n K with
  | nil => cases n <;> exact h.elim
  | cons x r ih =>
    cases n with
    | zero => exact ⟨by simp, h⟩
    | succ n => obtain ⟨h1, h2⟩ := ih h; exact ⟨by simpa using h1, h2⟩
theorem setK_mk {α : Type} {l : List α} {n : Nat} {v : α} {K : List α → Prop} (h : n < l.length) (hK : K (l.set n v)) : setK l n v K := by
  induction l generalizing n K with
  | nil => simp at h
  | cons x r ih =>
    cases n with
    | zero => exact hK
    | succ n => exact ih (K := fun r' => K (x :: r')) (by simpa using h) hK
theorem lkupK_elim {k : Nat} {own : List (Nat × Blk)} {K : Blk → Prop} (h : lkupK k own K) : ∃ b, look k own = some b ∧ K b := by
  induction own with
  | nil => exact h.elim
  | cons p r ih =>
    obtain ⟨j, b⟩ := p
    simp only [lkupK] at h
    simp only [look]
    by_cases e : j = k
    · subst e
      rw [Nat.beq_refl] at h
      exact ⟨b, by simp, h⟩
    · have : Nat.beq j k = false := by
        rw [← Bool.not_eq_true, Nat.beq_eq]; exact e
      rw [this] at h
      obtain ⟨c, hc, hK⟩ := ih h
      exact ⟨c, by simp [e, hc], hK⟩
theorem lkupK_mk {k : Nat} {own : List (Nat × Blk)} {K : Blk → Prop} {b : Blk} (h : look k own = some b) (hK : K b) : lkupK k own K := by
  induction own with
  | nil => simp [look] at h
  | cons p r ih =>
    obtain ⟨j, c⟩ := p
    simp only [look] at h
    simp only [lkupK]
    by_cases e : j = k
    · subst e
      rw [Nat.beq_refl]
      simp at h; subst h; exact hK
    · have : Nat.beq j k = false := by
        rw [← Bool.not_eq_true, Nat.beq_eq]; exact e
      rw [this]
      exact ih (by simpa [e] using h)
theorem updK_elim {k : Nat} {b : Blk} {own : List (Nat × Blk)} {K : List (Nat × Blk) → Prop} (h : updK k b own K) : K (upd k b own) := by
  induction own generalizing K with
  | nil => exact h.elim
  | cons p r ih =>
    obtain ⟨j, c⟩ := p
    simp only [updK] at h
    simp only [upd]
    by_cases e : j = k
    · subst e
      rw [Nat.beq_refl] at h
      simpa using h
    · have : Nat.beq j k = false := by
        rw [← Bool.not_eq_true, Nat.beq_eq]; exact e
      rw [this] at h
      simpa [e] using ih h
theorem updK_mk {k : Nat} {b c : Blk} {own : List (Nat × Blk)} {K : List (Nat × Blk) → Prop} (h : look k own = some c) (hK : K (upd k b own)) : updK k b own K := by
  induction own generalizing K with
  | nil => simp [look] at h
  | cons p r ih =>
    obtain ⟨j, c'⟩ := p
    simp only [look] at h
    simp only [updK]
    simp only [upd] at hK
    by_cases e : j = k
    · subst e
      rw [Nat.beq_refl]
      simpa using hK
    · have : Nat.beq j k = false := by
        rw [← Bool.not_eq_true, Nat.beq_eq]; exact e
      rw [this]
      exact ih (K := fun r' => K ((j, c') :: r')) (by simpa [e] using h) (by simpa [e] using hK)
theorem freshK_elim {k : Nat} {own : List (Nat × Blk)} {K : Prop} (h : freshK k own K) : look k own = none ∧ K := by
  induction own with
  | nil => exact ⟨rfl, h⟩
  | cons p r ih =>
    obtain ⟨j, c⟩ := p
    simp only [freshK] at h
    simp only [look]
    by_cases e : j = k
    · subst e
      rw [Nat.beq_refl] at h
      exact h.elim
    · have : Nat.beq j k = false := by
        rw [← Bool.not_eq_true, Nat.beq_eq]; exact e
      rw [this] at h
      obtain ⟨h1, h2⟩ := ih h
      exact ⟨by simp [e, h1], h2⟩
theorem freshK_mk {k : Nat} {own : List (Nat × Blk)} {K : Prop} (h : look k own = none) (hK : K) : freshK k own K := by
  induction own with
  | nil => exact hK
  | cons p r ih =>
    obtain ⟨j, c⟩ := p
    simp only [look] at h
    simp only [freshK]
    by_cases e : j = k
    · subst e; simp at h
    · have : Nat.beq j k = false := by
        rw [← Bool.not_eq_true, Nat.beq_eq]; exact e
      rw [this]
      exact ih (by simpa [e] using h)
theorem look_upd {k : Nat} {b c : Blk} {own : List (Nat × Blk)} (h : look k own = some c) (j : Nat) : look j (upd k b own) = if j = k then some b else look j own := by
  induction own with
  | nil => simp [look] at h
  | cons p r ih =>
    obtain ⟨i, c'⟩ := p
    simp only [look] at h
    simp only [upd]
    by_cases e : i = k
    · subst e
      by_cases e2 : j = i
      · subst e2; simp [look]
      · simp [look, e2, Ne.symm e2]
    · simp only [e, if_false] at h ⊢
      simp only [look]
      by_cases e3 : i = j
      · subst e3; simp [e]
      · simp [e3, ih h]
def evF (Γ : Env) (tm : List V) : Opd → Option V
  | .t i => tm[i]?
  | .k x => some (.t x)
  | .g i => (Γ.gl i).map (.vptr · 0)
theorem evK_elim {Γ : Env} {tm : List V} {x : Opd} {K : V → Prop} (h : evK Γ tm x K) : ∃ v, evF Γ tm x = some v ∧ K v := by
  cases x with
  | t i => exact getK_elim h
  | k x => exact ⟨_, rfl, h⟩
  | g i =>
    simp only [evK] at h
    cases e : Γ.gl i with
    | none => rw [e] at h; exact h.elim
    | some cs => rw [e] at h; exact ⟨_, by simp [evF, e], h⟩
theorem evK_mk {Γ : Env} {tm : List V} {x : Opd} {K : V → Prop} {v : V} (h : evF Γ tm x = some v) (hK : K v) : evK Γ tm x K := by
  cases x with
  | t i => exact getK_mk h hK
  | k x => simp [evF] at h; subst h; exact hK
  | g i =>
    simp only [evF] at h
    simp only [evK]
    cases e : Γ.gl i with
    | none => simp [e] at h
    | some cs => simp [e] at h; subst h; exact hK
theorem untagK_elim {l : List V} {K : List T → Prop} (h : untagK l K) : ∃ ts, l = ts.map .t ∧ K ts := by
  induction l generalizing K with
  | nil => exact ⟨[], rfl, h⟩
  | cons v r ih =>
    cases v <;> simp only [untagK] at h
    case t x => obtain ⟨ts, h1, h2⟩ := ih h; exact ⟨x :: ts, by simp [h1], h2⟩
theorem untagK_mk {ts : List T} {K : List T → Prop} (hK : K ts) : untagK (ts.map .t) K := by
  induction ts generalizing K with
  | nil => exact hK
  | cons x r ih => exact ih (K := fun l => K (x :: l)) hK
theorem tagK_elim {l : List T} {K : List V → Prop} (h : tagK l K) : K (l.map .t) := by
  induction l generalizing K with
  | nil => exact h
  | cons x r ih => exact ih (K := fun l => K (.t x :: l)) h
theorem tagK_mk {l : List T} {K : List V → Prop} (h : K (l.map .t)) : tagK l K := by
  induction l generalizing K with
  | nil => exact h
  | cons x r ih => exact ih (K := fun l => K (.t x :: l)) h
theorem takeK_elim {α : Type} {l : List α} {o n : Nat} {K : List α → Prop} (h : takeK l o n K) : (n = 0 ∨ o + n ≤ l.length) ∧ K ((l.drop o).take n) := by
  induction l generalizing o n K with
  | nil =>
    cases n with
    | zero => cases o <;> exact ⟨.inl rfl, by simpa [takeK] using h⟩
    | succ n => cases o <;> exact h.elim
  | cons x r ih =>
    cases n with
    | zero => cases o <;> exact ⟨.inl rfl, by simpa [takeK] using h⟩
    | succ n =>
      cases o with
      | zero =>
        obtain ⟨h1, h2⟩ := ih (o := 0) (n := n) h
        refine ⟨.inr ?_, by simpa using h2⟩
        simp only [List.length_cons]
        rcases h1 with h1 | h1 <;> omega
      | succ o =>
        obtain ⟨h1, h2⟩ := ih (o := o) (n := n + 1) h
        refine ⟨.inr ?_, by simpa using h2⟩
        simp only [List.length_cons]
        rcases h1 with h1 | h1 <;> omega
theorem takeK_mk {α : Type} {l : List α} {o n : Nat} {K : List α → Prop} (h : o + n ≤ l.length) (hK : K ((l.drop o).take n)) : takeK l o n K := by
  induction l generalizing o n K with
  | nil =>
    simp at h; obtain ⟨rfl, rfl⟩ := h; simpa [takeK] using hK
  | cons x r ih =>
    cases n with
    | zero => cases o <;> simpa [takeK] using hK
    | succ n =>
      cases o with
      | zero => exact ih (o := 0) (K := fun l => K (x :: l)) (by simp at h; omega) (by simpa using hK)
      | succ o => exact ih (o := o) (n := n + 1) (by simp at h; omega) (by simpa using hK)
theorem putNK_elim {α : Type} {cs : List α} {o : Nat} {l : List α} {K : List α → Prop} (h : putNK cs o l K) : (l = [] ∨ o + l.length ≤ cs.length) ∧ K (putN cs o l) := by
  induction cs generalizing o l K with
  | nil =>
    cases l with
    | nil => cases o <;> exact ⟨.inl rfl, by simpa [putN, putNK] using h⟩
    | cons v vs => cases o <;> exact h.elim
  | cons x r ih =>
    cases l with
    | nil => cases o <;> exact ⟨.inl rfl, by simpa [putN, putNK] using h⟩
    | cons v vs =>
      cases o with
      | zero =>
        obtain ⟨h1, h2⟩ := ih (o := 0) (l := vs) h
        refine ⟨.inr ?_, by simpa [putN] using h2⟩
        simp only [List.length_cons]
        rcases h1 with rfl | h1
        · simp
        · omega
      | succ o =>
        obtain ⟨h1, h2⟩ := ih (o := o) (l := v :: vs) h
        refine ⟨.inr ?_, by simpa [putN] using h2⟩
        simp only [List.length_cons] at h1 ⊢
        rcases h1 with h1 | h1
        · cases h1
        · omega
theorem putNK_mk {α : Type} {cs : List α} {o : Nat} {l : List α} {K : List α → Prop} (h : o + l.length ≤ cs.length) (hK : K (putN cs o l)) : putNK cs o l K := by
  induction cs generalizing o l K with
  | nil =>
    simp at h; obtain ⟨rfl, rfl⟩ := h; simpa [putNK, putN] using hK
  | cons x r ih =>
    cases l with
    | nil => cases o <;> simpa [putNK, putN] using hK
    | cons v vs =>
      cases o with
      | zero => exact ih (o := 0) (l := vs) (K := fun r' => K (v :: r')) (by simp at h ⊢; omega) (by simpa [putN] using hK)
      | succ o => exact ih (o := o) (l := v :: vs) (K := fun r' => K (x :: r')) (by simp at h ⊢; omega) (by simpa [putN] using hK)
theorem putN_length {α : Type} (cs : List α) (o : Nat) (l : List α) : (l = [] ∨ o + l.length ≤ cs.length) → (putN cs o l).length = cs.length := by
  induction cs generalizing o l with
  | nil => intro h; cases l <;> cases o <;> simp [putN]
  | cons x r ih =>
    intro h
    cases l with
    | nil => cases o <;> simp [putN]
    | cons v vs =>
      simp at h
      cases o with
      | zero => simp only [putN, List.length_cons]; rw [ih 0 vs (by cases vs <;> simp_all)]
      | succ o => simp only [putN, List.length_cons]; rw [ih o (v :: vs) (by simp; omega)]
theorem putN_get {α : Type} (cs : List α) (o : Nat) (l : List α) (i : Nat) (h : o + l.length ≤ cs.length) :
    (putN cs o l)[i]? = if o ≤ i ∧ i < o + l.length then l[i - o]? else cs[i]? := by
  induction cs generalizing o l i with
  | nil => simp at h; obtain ⟨rfl, rfl⟩ := h; simp [putN]
  | cons x r ih =>
    cases l with
    | nil =>
      have : ¬ (o ≤ i ∧ i < o + ([] : List α).length) := by simp
      rw [if_neg this]
      cases o <;> simp [putN]
    | cons v vs =>
      simp at h
      cases o with
      | zero =>
        cases i with
        | zero => simp [putN]
        | succ i =>
          simp only [putN, List.getElem?_cons_succ]
          rw [ih 0 vs i (by omega)]
          simp
      | succ o =>
        cases i with
        | zero => simp [putN]
        | succ i =>
          simp only [putN, List.getElem?_cons_succ]
          rw [ih o (v :: vs) i (by simp; omega)]
          by_cases c : o ≤ i ∧ i < o + (v :: vs).length
          · rw [if_pos c, if_pos (by simp at c ⊢; omega)]
            congr 1; omega
          · rw [if_neg c, if_neg (by simp at c ⊢; omega)]
theorem lenK_elim {α : Type} {l : List α} {n : Nat} {K : Prop} (h : lenK l n K) : l.length = n ∧ K := by
  induction l generalizing n with
  | nil => cases n with
    | zero => exact ⟨rfl, h⟩
    | succ n => exact h.elim
  | cons x r ih => cases n with
    | zero => exact h.elim
    | succ n => obtain ⟨h1, h2⟩ := ih h; exact ⟨by simp [h1], h2⟩
theorem lenK_mk {α : Type} {l : List α} {n : Nat} {K : Prop} (h : l.length = n) (hK : K) : lenK l n K := by
  subst h
  induction l with
  | nil => exact hK
  | cons x r ih => exact ih
theorem oneK_elim {x : T} {K : Prop} (h : oneK x K) : x.one = true ∧ K := by cases x <;> first | exact ⟨rfl, h⟩ | exact h.elim
theorem oneK_mk {x : T} {K : Prop} (h : x.one = true) (hK : K) : oneK x K := by cases x <;> first | exact hK | (simp [T.one] at h)
theorem onesK_elim {l : List T} {K : Prop} (h : onesK l K) : (∀ x ∈ l, x.one = true) ∧ K := by
  induction l with
  | nil => exact ⟨by simp, h⟩
  | cons x r ih =>
    obtain ⟨h1, h2⟩ := oneK_elim h
    obtain ⟨h3, h4⟩ := ih h2
    exact ⟨by simpa [h1] using h3, h4⟩
theorem onesK_mk {l : List T} {K : Prop} (h : ∀ x ∈ l, x.one = true) (hK : K) : onesK l K := by
  induction l with
  | nil => exact hK
  | cons x r ih =>
    refine oneK_mk (h x (by simp)) (ih fun y hy => h y (by simp [hy]))
theorem cellsTK_elim {x : T} {K : List T → Prop} (h : cellsTK x K) : (∀ y ∈ x.cells, y.one = true) ∧ (x.one = true ∨ ∃ cs, x = .agg cs) ∧ K x.cells := by
  cases x <;> first
    | exact h.elim
    | (obtain ⟨h1, h2⟩ := onesK_elim h; exact ⟨h1, .inr ⟨_, rfl⟩, h2⟩)
    | exact ⟨by simp [T.cells, T.one], .inl rfl, h⟩
theorem cellsTK_mk {x : T} {K : List T → Prop} (h : ∀ y ∈ x.cells, y.one = true) (hx : x.one = true ∨ ∃ cs, x = .agg cs) (hK : K x.cells) : cellsTK x K := by
  cases x <;> first
    | exact onesK_mk h hK
    | exact hK
    | (rcases hx with hx | ⟨_, hx⟩ <;> simp [T.one] at hx)
def V.cells : V → List V
  | .t x => x.cells.map .t
  | v => [v]
theorem cellsK_elim {v : V} {K : List V → Prop} (h : cellsK v K) : (∀ x, v = .t x → (∀ y ∈ x.cells, y.one = true) ∧ (x.one = true ∨ ∃ cs, x = .agg cs)) ∧ v ≠ .dead ∧ K v.cells := by
  cases v <;> first
    | exact h.elim
    | exact ⟨by simp, by simp, h⟩
    | skip
  rename_i x
  refine ⟨?_, by simp, ?_⟩
  · intro y hy
    simp at hy; subst hy
    cases x <;> first
      | exact h.elim
      | exact ⟨(onesK_elim h).1, .inr ⟨_, rfl⟩⟩
      | exact ⟨by simp [T.cells, T.one], .inl rfl⟩
  · cases x <;> first
      | exact h.elim
      | exact tagK_elim (onesK_elim h).2
      | exact h
theorem toTK_elim {v : V} {K : T → Prop} (h : toTK v K) : ∃ x, v = .t x ∧ K x := by
  cases v <;> first | exact ⟨_, rfl, h⟩ | exact h.elim
theorem aggK_elim {v : V} {K : List T → Prop} (h : aggK v K) : ∃ l, v = .t (.agg l) ∧ K l := by
  unfold aggK at h
  split at h
  · exact ⟨_, rfl, h⟩
  · exact h.elim
theorem natK_elim {b : Bool} {K : Prop} (h : natK b K) : b = true ∧ K := by cases b <;> first | exact h.elim | exact ⟨rfl, h⟩
theorem listK_elim {x : T} {K : Nat → List T → Prop} (h : listK x K) : (∃ sz xs, x = .list sz xs ∧ K sz xs) ∨ (x = .nils ∧ K 0 []) := by
  cases x <;> first | exact .inl ⟨_, _, rfl, h⟩ | exact .inr ⟨rfl, h⟩ | exact h.elim
theorem ansK_elim {a : Ans} {K : T → Prop} (h : ansK a K) : ∃ x, (a = .yes x ∨ ∃ p, a = .req p x ∧ p) ∧ K x := by
  cases a with
  | no => exact h.elim
  | yes x => exact ⟨x, .inl rfl, h⟩
  | req p x => obtain ⟨h1, h2⟩ := reqK_elim h; exact ⟨x, .inr ⟨p, rfl, h1⟩, h2⟩
def St.put (st : St) (d : Option Nat) (v : V) : St := match d with
  | none => st
  | some d => ⟨st.tm.set d v, st.own⟩
theorem putK_elim {st : St} {d : Option Nat} {v : V} {K : St → Prop} (h : putK st d v K) : (∀ i, d = some i → i < st.tm.length) ∧ K (st.put d v) := by
  cases d with
  | none => exact ⟨by simp, h⟩
  | some d =>
    obtain ⟨tm, own⟩ := st
    obtain ⟨h1, h2⟩ := setK_elim h
    exact ⟨by simpa using h1, h2⟩
theorem putK_mk {st : St} {d : Option Nat} {v : V} {K : St → Prop} (h : ∀ i, d = some i → i < st.tm.length) (hK : K (st.put d v)) : putK st d v K := by
  cases d with
  | none => exact hK
  | some d =>
    obtain ⟨tm, own⟩ := st
    exact setK_mk (h d rfl) hK
theorem rdTK_elim {cs : List T} {off : Nat} {n : Option Nat} {K : V → Prop} (h : rdTK cs off n K) :
    (n = none ∧ ∃ x, cs[off]? = some x ∧ K (.t x)) ∨ (∃ m, n = some m ∧ (m = 0 ∨ off + m ≤ cs.length) ∧ K (.t (.agg ((cs.drop off).take m)))) := by
  cases n with
  | none => obtain ⟨x, h1, h2⟩ := getK_elim h; exact .inl ⟨rfl, x, h1, h2⟩
  | some m => obtain ⟨h1, h2⟩ := takeK_elim h; exact .inr ⟨m, rfl, h1, h2⟩
theorem rdK_elim {cs : List V} {off : Nat} {n : Option Nat} {K : V → Prop} (h : rdK cs off n K) :
    (n = none ∧ ∃ v, cs[off]? = some v ∧ K v) ∨ (∃ m ts, n = some m ∧ (m = 0 ∨ off + m ≤ cs.length) ∧ (cs.drop off).take m = ts.map .t ∧ (∀ x ∈ ts, x.one = true) ∧ K (.t (.agg ts))) := by
  cases n with
  | none => obtain ⟨x, h1, h2⟩ := getK_elim h; exact .inl ⟨rfl, x, h1, h2⟩
  | some m =>
    obtain ⟨h1, h2⟩ := takeK_elim h
    obtain ⟨ts, h3, h4⟩ := untagK_elim h2
    obtain ⟨h5, h6⟩ := onesK_elim h4
    exact .inr ⟨m, ts, rfl, h1, h3, h5, h6⟩
theorem bndK_elim {Γ : Env} {tm : List V} {x : Option Opd} {n : Nat} {K : Int → Prop} (h : bndK Γ tm x n K) : (x = none ∧ K n) ∨ ∃ y k z, x = some y ∧ evF Γ tm y = some (.t (.int k z)) ∧ K z := by
  cases x with
  | none => exact .inl ⟨rfl, h⟩
  | some y =>
    obtain ⟨v, hv, h⟩ := evK_elim h
    split at h
    · exact .inr ⟨y, _, _, rfl, hv, h⟩
    · exact h.elim
theorem ldaK_elim {sz off : Nat} {n : Option Nat} {ts : List T} {K : V → Prop} (h : ldaK sz off n ts K) : sz = 1 ∧ off = 0 ∧ ∃ m, n = some m ∧ ts.length = m ∧ (∀ x ∈ ts, x.one = true) ∧ K (.t (.agg ts)) := by
  unfold ldaK at h
  split at h
  · obtain ⟨⟨h1, h2⟩, h3⟩ := reqK_elim h; exact ⟨rfl, rfl, _, rfl, h1, h2, h3⟩
  · exact h.elim
theorem staK_elim {sz off n : Nat} {ts : List T} {v : V} {K : List T → Prop} (h : staK sz off n ts v K) : sz = 1 ∧ off = 0 ∧ ∃ l, v = .t (.agg l) ∧ l.length = n ∧ ts.length = n ∧ (∀ x ∈ l, x.one = true) ∧ K l := by
  unfold staK at h
  split at h
  · obtain ⟨⟨h1, h2, h3⟩, h4⟩ := reqK_elim h; exact ⟨rfl, rfl, _, rfl, h1, h2, h3, h4⟩
  · exact h.elim
theorem steK_elim {sz j n i : Nat} {ts : List T} {v : V} {K : List T → Prop} (h : steK sz j n i ts v K) : sz = 1 ∧ j = 0 ∧ n = 1 ∧ ∃ y, v = .t y ∧ y.one = true ∧ i < ts.length ∧ K (ts.set i y) := by
  unfold steK at h
  split at h
  · obtain ⟨y, rfl, h⟩ := toTK_elim h
    obtain ⟨h1, h⟩ := oneK_elim h
    obtain ⟨h2, h⟩ := reqK_elim h
    exact ⟨rfl, rfl, rfl, y, rfl, h1, h2, h⟩
  · exact h.elim
theorem ixaK_elim {sz len o : Nat} {b : Blk} {z : Int} {K : Nat → Prop} (h : ixaK sz len o b z K) : o = 0 ∧ (∃ ts wr, b = .lst sz ts wr) ∧ 0 ≤ z ∧ z < len ∧ K z.toNat := by
  unfold ixaK at h
  split at h
  · obtain ⟨h1, h5⟩ := natK_elim h
    obtain ⟨⟨h2, h3⟩, h4⟩ := reqK_elim h5
    rw [Nat.beq_eq] at h1; subst h1
    exact ⟨rfl, ⟨_, _, rfl⟩, h2, h3, h4⟩
  · exact h.elim
theorem ixvK_elim {sz len o : Nat} {cs : List T} {z : Int} {K : V → Prop} (h : ixvK sz len o cs z K) : sz = 1 ∧ 0 ≤ z ∧ z < len ∧ ∃ x, cs[o + z.toNat]? = some x ∧ K (.vptr [x] 0) := by
  unfold ixvK at h
  split at h
  · obtain ⟨h1, x, h2, h⟩ := nthK_elim h
    obtain ⟨h3, h⟩ := reqK_elim h
    exact ⟨rfl, h1, h3, x, by rw [List.getElem?_drop] at h2; exact h2, h⟩
  · exact h.elim
end Go.Mx
