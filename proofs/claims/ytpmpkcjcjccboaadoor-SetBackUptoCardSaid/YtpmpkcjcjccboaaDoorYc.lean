/-
  WORKSHOP: contracts, environments, loops, lists of numbers.
-/
import Derived.Test.YtpmpkcjcjccboaaDoorYb
set_option linter.unusedVariables false
namespace Go.Nx
open Go.RowKit

theorem lt_t {a b : Int} : ltI a b = true ↔ a < b := by rw [ltI_def]; simp
theorem lt_f {a b : Int} : ltI a b = false ↔ b ≤ a := by rw [ltI_def]; simp
theorem le_t {a b : Int} : leI a b = true ↔ a ≤ b := by rw [leI_def]; simp
theorem le_f {a b : Int} : leI a b = false ↔ b < a := by rw [leI_def]; simp
theorem eq_t {a b : Int} : eqI a b = true ↔ a = b := by rw [eqI_def]; simp
theorem eq_f {a b : Int} : eqI a b = false ↔ a ≠ b := by rw [eqI_def]; simp
@[simp] theorem eqI_self (a : Int) : eqI a a = true := by rw [eqI_def]; simp
theorem not_t {a : Bool} : (!a) = true ↔ a = false := by simp
theorem not_f {a : Bool} : (!a) = false ↔ a = true := by simp

/-! ### contracts -/
def ansL : List (Nat × (List T → Ans)) → Nat → List T → Ans
  | [], _, _ => .no
  | p :: r, f, vs => match p with
    | (j, g) => match Nat.beq j f with
      | true => g vs
      | false => ansL r f vs
def Got (a : Ans) (x : T) : Prop := a = .yes x ∨ ∃ p d, a = @Ans.req p d x ∧ p
theorem got_yes {x y : T} (h : Got (.yes x) y) : y = x := by
  rcases h with h | ⟨p, _, h, _⟩
  · cases h; rfl
  · cases h
theorem got_req {p : Prop} {d : Decidable p} {x y : T} (h : Got (@Ans.req p d x) y) : p ∧ y = x := by
  rcases h with h | ⟨q, _, h, hq⟩
  · cases h
  · cases h; exact ⟨hq, rfl⟩
theorem got_no {x : T} (h : Got .no x) : False := by
  rcases h with h | ⟨q, _, h, hq⟩ <;> cases h
theorem got_gl {p : Prop} {d : Decidable p} {sz : Nat} {xs : List T} {x : T} (h : Got (@Ans.gl p d sz xs) x) : False := by
  rcases h with h | ⟨q, _, h, hq⟩ <;> cases h
theorem got_pk {p : Prop} {d : Decidable p} {x y : T} (h : Got (@Ans.pk p d y) x) : False := by
  rcases h with h | ⟨q, _, h, hq⟩ <;> cases h
abbrev Pt := Nat → List V → Own → (V → Own → Prop) → Prop
def ptNo : Pt := fun _ _ _ _ => False
def isL : List (Nat × Pt) → Nat → Bool
  | [], _ => false
  | p :: r, f => match p with
    | (j, _) => match Nat.beq j f with
      | true => true
      | false => isL r f
def ptL : List (Nat × Pt) → Nat → Pt
  | [], _, _, _, _, _ => False
  | p :: r, f, base, args, own, R => match p with
    | (j, g) => match Nat.beq j f with
      | true => g base args own R
      | false => ptL r f base args own R
/-- a context: contracts, functions laid in -/
def En (gl : Nat → Option (List T)) (l : List (Nat × (List T → Ans))) (il : List (Nat × Pt)) : Env := ⟨ansL l, gl, 0, [], isL il, ptL il, fun n => isL il (Nat.add n 1000000)⟩
section
variable {P : Program} {gl : Nat → Option (List T)} {l : List (Nat × (List T → Ans))} {il : List (Nat × Pt)}
theorem env_nil : EnvOk P (En gl [] []) := ⟨fun f vs x h => (got_no h).elim, fun f vs p d sz xs h => (by cases h), fun f vs p d x h => (by cases h), fun f base args own R h => (by cases h)⟩
theorem env_fn {n : Nat} {g : List T → Ans} (h : EnvOk P (En gl l il)) (hg : ∀ vs x, Got (g vs) x → FnOk P gl n vs x) (hg2 : ∀ vs p d sz xs, g vs = @Ans.gl p d sz xs → p → FnGl P gl n vs sz xs) (hg3 : ∀ vs p d x, g vs = @Ans.pk p d x → p → FnOk P gl n vs x) : EnvOk P (En gl ((n, g) :: l) il) := by
  refine ⟨fun f vs x hx => ?_, fun f vs p d sz xs hx hp => ?_, fun f vs p d x hx hp => ?_, h.pt⟩
  · have hx' : Got (ansL ((n, g) :: l) f vs) x := hx
    simp only [ansL] at hx'
    cases e : Nat.beq n f with
    | true =>
      rw [e] at hx'
      rw [← Nat.eq_of_beq_eq_true e]
      exact hg vs x hx'
    | false =>
      rw [e] at hx'
      exact h.fn f vs x hx'
  · have hx' : ansL ((n, g) :: l) f vs = @Ans.gl p d sz xs := hx
    simp only [ansL] at hx'
    cases e : Nat.beq n f with
    | true =>
      rw [e] at hx'
      rw [← Nat.eq_of_beq_eq_true e]
      exact hg2 vs p d sz xs hx' hp
    | false =>
      rw [e] at hx'
      exact h.gl f vs p d sz xs hx' hp
  · have hx' : ansL ((n, g) :: l) f vs = @Ans.pk p d x := hx
    simp only [ansL] at hx'
    cases e : Nat.beq n f with
    | true =>
      rw [e] at hx'
      rw [← Nat.eq_of_beq_eq_true e]
      exact hg3 vs p d x hx' hp
    | false =>
      rw [e] at hx'
      exact h.pk f vs p d x hx' hp
theorem env_in {n : Nat} {fn : Func} {m : MFn} {l' : List (Nat × (List T → Ans))} {il' : List (Nat × Pt)} (h : EnvOk P (En gl l il)) (h' : EnvOk P (En gl l' il')) (hf : P.funcs[n]? = some fn) (hm : lowFn P fn = some m) :
    EnvOk P (En gl l ((n, inl (En gl l' il') m) :: il)) := by
  refine ⟨h.fn, h.gl, h.pk, fun f base args own R hi hR => ?_⟩
  have hR' : ptL ((n, inl (En gl l' il') m) :: il) f base args own R := hR
  have hi' : isL ((n, inl (En gl l' il') m) :: il) f = true := hi
  simp only [ptL] at hR'
  simp only [isL] at hi'
  cases e : Nat.beq n f with
  | true =>
    rw [e] at hR'
    rw [← Nat.eq_of_beq_eq_true e]
    exact inl_ok h' hf hm hR'
  | false =>
    rw [e] at hR' hi'
    exact h.pt f base args own R hi' hR'
theorem env_flag {n : Nat} (h : EnvOk P (En gl l il)) : EnvOk P (En gl l ((n, ptNo) :: il)) := by
  refine ⟨h.fn, h.gl, h.pk, fun f base args own R hi hR => ?_⟩
  have hR' : ptL ((n, ptNo) :: il) f base args own R := hR
  have hi' : isL ((n, ptNo) :: il) f = true := hi
  simp only [ptL] at hR'
  simp only [isL] at hi'
  cases e : Nat.beq n f with
  | true => rw [e] at hR'; exact hR'.elim
  | false =>
    rw [e] at hR' hi'
    exact h.pt f base args own R hi' hR'
end
theorem FnOk.eq {P : Program} {gl : Nat → Option (List T)} {f : FuncId} {vs : List T} {x y : T} (h : FnOk P gl f vs x) (e : x = y) : FnOk P gl f vs y := e ▸ h

/-- the same of arguments that mean more -/
theorem FnOk.args {P : Program} {gl : Nat → Option (List T)} {f : FuncId} {vs vs' : List T} {x : T} (h : FnOk P gl f vs x) (hl : vs'.length = vs.length)
    (hv : ∀ (i : Nat) (c c' : T), vs[i]? = some c → vs'[i]? = some c' → ∀ S w u, RelT S w c' u → RelT S w c u) : FnOk P gl f vs' x := by
  refine ⟨h.1, fun S w args hlt hgl hsz hrel => h.2 S w args hlt hgl (hsz.trans hl) fun i c u hc hu => ?_⟩
  have hi : i < vs'.length := by
    rw [hl]
    rcases Nat.lt_or_ge i vs.length with h | h
    · exact h
    · rw [List.getElem?_eq_none h] at hc; cases hc
  have e : vs'[i]? = some vs'[i] := by simp [hi]
  exact hv i c _ hc e S w u (hrel i _ u e hu)
theorem nil_list {S : Cells} {w : World} {u : Value} (sz : Nat) (h : RelT S w .nils u) : RelT S w (.list sz []) u := by
  cases h
  exact .list sz [] none 0 (fun _ _ => .nilFunc) (by simp) (fun h => absurd rfl h) (fun x hx => by cases hx) (fun i x hx => by simp at hx)
theorem FnOk.nil3 {P : Program} {gl : Nat → Option (List T)} {f : FuncId} {a b c x : T} (h : FnOk P gl f [a, b, c, .list 1 []] x) : FnOk P gl f [a, b, c, .nils] x := by
  refine h.args rfl fun i c1 c2 h1 h2 S w u hu => ?_
  rcases i with _ | _ | _ | _ | i
  · simp at h1 h2; subst h1; subst h2; exact hu
  · simp at h1 h2; subst h1; subst h2; exact hu
  · simp at h1 h2; subst h1; subst h2; exact hu
  · simp at h1 h2; subst h1; subst h2; exact nil_list 1 hu
  · simp at h1

theorem FnOk.nilA {P : Program} {gl : Nat → Option (List T)} {f : FuncId} {b x : T} (h : FnOk P gl f [.list 1 [], b] x) : FnOk P gl f [.nils, b] x := by
  refine h.args rfl fun i c1 c2 h1 h2 S w u hu => ?_
  rcases i with _ | _ | i
  · simp at h1 h2; subst h1; subst h2; exact nil_list 1 hu
  · simp at h1 h2; subst h1; subst h2; exact hu
  · simp at h1
theorem FnOk.nilB {P : Program} {gl : Nat → Option (List T)} {f : FuncId} {a x : T} (h : FnOk P gl f [a, .list 1 []] x) : FnOk P gl f [a, .nils] x := by
  refine h.args rfl fun i c1 c2 h1 h2 S w u hu => ?_
  rcases i with _ | _ | i
  · simp at h1 h2; subst h1; subst h2; exact hu
  · simp at h1 h2; subst h1; subst h2; exact nil_list 1 hu
  · simp at h1
/-! ### loops -/
theorem setK_mono {α : Type} {v : α} : ∀ {l : List α} {i : Nat} {K K' : List α → Prop}, (∀ s, K s → K' s) → setK l i v K → setK l i v K' := by
  intro l i K K' h hs
  obtain ⟨h1, h2⟩ := setK_elim hs
  exact setK_mk h1 (h _ h2)
theorem keepK_mono {m : List Nat} : ∀ {own : Own} {K K' : Own → Prop}, (∀ s, K s → K' s) → keepK m own K → keepK m own K'
  | [], K, K', h, hk => h _ hk
  | p :: r, K, K', h, hk => by
    obtain ⟨j, b⟩ := p
    simp only [keepK] at hk ⊢
    split at hk
    · exact keepK_mono h hk
    · exact keepK_mono (fun s hs => h _ hs) hk
theorem natK_mono {b : Bool} {K K' : Prop} (h : K → K') (hk : natK b K) : natK b K' := by
  obtain ⟨h1, h2⟩ := natK_elim hk
  subst h1; exact h h2
theorem pushK_mono {K K' : List Nat → Prop} (h : ∀ m, K m → K' m) : ∀ {l m : List Nat}, pushK l m K → pushK l m K'
  | [], m, hk => h m hk
  | x :: l, m, hk => by
    simp only [pushK] at hk ⊢
    split at hk
    · rename_i e; exact pushK_mono h hk
    · rename_i e; exact pushK_mono h hk
theorem reachK_mono {K K' : List Nat → Prop} (h : ∀ m, K m → K' m) : ∀ {own : Own} {m : List Nat}, reachK K own m → reachK K' own m
  | [], m, hk => h m hk
  | p :: l, m, hk => by
    unfold reachK at hk ⊢
    split at hk
    · exact reachK_mono h hk
    · exact pushK_mono (fun m' hm => reachK_mono h hm) hk
theorem marksK_mono {own0 : Own} {K K' : List Nat → Prop} (h : ∀ m, K m → K' m) : ∀ {own : Own} {m : List Nat}, marksK own0 K own m → marksK own0 K' own m
  | [], m, hk => h m hk
  | p :: l, m, hk => by
    unfold marksK at hk ⊢
    exact reachK_mono (fun m' hm => marksK_mono h hm) hk
theorem nz1_mono {prot : List Nat} {z : Nz} {st : St} {K K' : St → Prop} (h : ∀ s, K s → K' s) (hz : nz1K prot z st K) : nz1K prot z st K' := by
  obtain ⟨tm, own⟩ := st
  cases z with
  | kill i => exact setK_mono (fun s hs => h _ hs) hz
  | gc => exact pushK_mono (fun m hm => marksK_mono (fun m hm => natK_mono (natK_mono (keepK_mono fun s hs => h _ hs)) hm) hm) hz
  | ren k k0 =>
    refine natK_mono (fun hz => ?_) hz
    obtain ⟨h1, h2⟩ := freshK_elim hz
    exact freshK_mk h1 (h _ h2)
  | keep m => exact natK_mono (natK_mono (keepK_mono fun s hs => h _ hs)) hz
  | set k =>
    obtain ⟨b, hb, hz⟩ := lkupK_elim hz
    refine lkupK_mk hb ?_
    split at hz
    · exact updK_mk hb (h _ (updK_elim hz))
    · exact hz.elim
  | adopt i k sz =>
    obtain ⟨v, hv, hz⟩ := getK_elim hz
    refine getK_mk hv ?_
    split at hz
    · obtain ⟨h1, h2⟩ := freshK_elim hz
      exact freshK_mk h1 (setK_mono (fun s hs => h _ hs) h2)
    · obtain ⟨h1, h2⟩ := freshK_elim hz
      exact freshK_mk h1 (setK_mono (fun s hs => h _ hs) h2)
    · exact hz.elim
theorem nz_mono {prot : List Nat} {K K' : St → Prop} (h : ∀ s, K s → K' s) : ∀ {zs : List Nz} {st : St}, nzK prot zs st K → nzK prot zs st K'
  | [], st, hz => h _ hz
  | z :: r, st, hz => nz1_mono (fun s hs => nz_mono h hs) hz
theorem least_of {Q : Nat → Prop} : ∀ n, Q n → ∃ m, Q m ∧ ∀ k, Q k → m ≤ k := by
  intro n
  induction n using Nat.strongRecOn with
  | ind n ih =>
    intro h
    by_cases c : ∃ k, k < n ∧ Q k
    · obtain ⟨k, h1, h2⟩ := c; exact ih k h1 h2
    · refine ⟨n, h, fun k hk => ?_⟩
      rcases Nat.lt_or_ge k n with h3 | h3
      · exact (c ⟨k, h3, hk⟩).elim
      · exact h3
open Classical in
/-- a loop, by a family of states -/
theorem loopAt {α : Type} {prot : List Nat} {W : St → (Ex → St → Prop) → Prop} {st : St} {K : Ex → St → Prop} (n1 n2 : List Nz) (S : α → St) (J : α → Prop) (m : α → Nat) (a0 : α) (hJ : J a0) (h0 : nzK prot n1 st fun s => s = S a0)
    (h : ∀ a, J a → ∀ C : St → Prop, (∀ b, J b → m b < m a → C (S b)) → W (S a) fun e s' => match e with
      | .normal => nzK prot n2 s' C
      | e => K e s') : loopK prot W st K := by
  unfold loopK
  let Q : St → Nat → Prop := fun s n => ∃ a, J a ∧ s = S a ∧ m a = n
  let I : St → Prop := fun s => ∃ n, Q s n
  have hl : ∀ s, I s → ∃ n, Q s n ∧ ∀ k, Q s k → n ≤ k := fun s ⟨n, hn⟩ => least_of n hn
  let μ : St → Nat := fun s => if hx : I s then Classical.choose (hl s hx) else 0
  have hμ : ∀ s (hx : I s), Q s (μ s) ∧ ∀ k, Q s k → μ s ≤ k := fun s hx => by
    simp only [μ, dif_pos hx]; exact Classical.choose_spec (hl s hx)
  refine ⟨n1, fun _ => n2, I, μ, nz_mono (fun s e => ⟨_, a0, hJ, e, rfl⟩) h0, fun s hs => ?_⟩
  obtain ⟨⟨a, h1, h2, h3⟩, _⟩ := hμ s hs
  subst h2
  refine h a h1 (fun s'' => I s'' ∧ μ s'' < μ (S a)) fun b hb hlt => ?_
  have hb' : I (S b) := ⟨_, b, hb, rfl, rfl⟩
  refine ⟨hb', ?_⟩
  have := (hμ _ hb').2 (m b) ⟨b, hb, rfl, rfl⟩
  omega
def setL (tm : List V) : List (Nat × V) → List V
  | [] => tm
  | p :: r => setL (tm.set p.1 p.2) r
open Classical in
/-- the same; the state is the one ahead, but for some slots, and what is owned -/
theorem loopSet {α : Type} {prot : List Nat} {W : St → (Ex → St → Prop) → Prop} {st : St} {K : Ex → St → Prop} (n1 n2 : List Nz) (f : α → List (Nat × V)) (o : α → Own) (J : α → Prop) (m : α → Nat) (a0 : α) (hJ : J a0)
    (h : nzK prot n1 st fun s => (s.tm = setL s.tm (f a0) ∧ s.own = o a0) ∧ ∀ a, J a → ∀ C : St → Prop, (∀ b, J b → m b < m a → C ⟨setL s.tm (f b), o b⟩) → W ⟨setL s.tm (f a), o a⟩ fun e s' => match e with
      | .normal => nzK prot n2 s' C
      | e => K e s') : loopK prot W st K := by
  unfold loopK
  let G : List V → Prop := fun tm => ∀ a, J a → ∀ C : St → Prop, (∀ b, J b → m b < m a → C ⟨setL tm (f b), o b⟩) → W ⟨setL tm (f a), o a⟩ fun e s' => match e with
      | .normal => nzK prot n2 s' C
      | e => K e s'
  let Q : St → Nat → Prop := fun s n => ∃ tm a, G tm ∧ J a ∧ s = ⟨setL tm (f a), o a⟩ ∧ m a = n
  let I : St → Prop := fun s => ∃ n, Q s n
  have hl : ∀ s, I s → ∃ n, Q s n ∧ ∀ k, Q s k → n ≤ k := fun s ⟨n, hn⟩ => least_of n hn
  let μ : St → Nat := fun s => if hx : I s then Classical.choose (hl s hx) else 0
  have hμ : ∀ s (hx : I s), Q s (μ s) ∧ ∀ k, Q s k → μ s ≤ k := fun s hx => by
    simp only [μ, dif_pos hx]; exact Classical.choose_spec (hl s hx)
  refine ⟨n1, fun _ => n2, I, μ, nz_mono (fun s e => ⟨_, s.tm, a0, e.2, hJ, by
    obtain ⟨⟨e1, e2⟩, _⟩ := e
    obtain ⟨tm, own⟩ := s
    simp only at e1 e2 ⊢
    rw [← e1, e2], rfl⟩) h, fun s hs => ?_⟩
  obtain ⟨⟨tm, a, hG, h1, h2, h3⟩, _⟩ := hμ s hs
  subst h2
  refine hG a h1 (fun s'' => I s'' ∧ μ s'' < μ ⟨setL tm (f a), o a⟩) fun b hb hlt => ?_
  have hb' : I ⟨setL tm (f b), o b⟩ := ⟨_, tm, b, hG, hb, rfl, rfl⟩
  refine ⟨hb', ?_⟩
  have := (hμ _ hb').2 (m b) ⟨tm, b, hG, hb, rfl, rfl⟩
  omega
def putO (k : Nat) (b : Blk) : Own → Own
  | [] => []
  | p :: r => match p with
    | (j, c) => match Nat.beq j k with
      | true => (j, b) :: r
      | false => (j, c) :: putO k b r
def setO (own : Own) : List (Nat × Blk) → Own
  | [] => own
  | p :: r => setO (putO p.1 p.2 own) r
/-- the same; of what is owned some blocks turn -/
theorem loopUp {α : Type} {prot : List Nat} {W : St → (Ex → St → Prop) → Prop} {st : St} {K : Ex → St → Prop} (n1 n2 : List Nz) (f : α → List (Nat × V)) (g : α → List (Nat × Blk)) (J : α → Prop) (m : α → Nat) (a0 : α) (hJ : J a0)
    (h : nzK prot n1 st fun s => (s.tm = setL s.tm (f a0) ∧ s.own = setO s.own (g a0)) ∧ ∀ a, J a → ∀ C : St → Prop, (∀ b, J b → m b < m a → C ⟨setL s.tm (f b), setO s.own (g b)⟩) → W ⟨setL s.tm (f a), setO s.own (g a)⟩ fun e s' => match e with
      | .normal => nzK prot n2 s' C
      | e => K e s') : loopK prot W st K := by
  unfold loopK
  let G : St → Prop := fun s => ∀ a, J a → ∀ C : St → Prop, (∀ b, J b → m b < m a → C ⟨setL s.tm (f b), setO s.own (g b)⟩) → W ⟨setL s.tm (f a), setO s.own (g a)⟩ fun e s' => match e with
      | .normal => nzK prot n2 s' C
      | e => K e s'
  let Q : St → Nat → Prop := fun s n => ∃ t a, G t ∧ J a ∧ s = ⟨setL t.tm (f a), setO t.own (g a)⟩ ∧ m a = n
  let I : St → Prop := fun s => ∃ n, Q s n
  have hl : ∀ s, I s → ∃ n, Q s n ∧ ∀ k, Q s k → n ≤ k := fun s ⟨n, hn⟩ => least_of n hn
  classical
  let μ : St → Nat := fun s => if hx : I s then Classical.choose (hl s hx) else 0
  have hμ : ∀ s (hx : I s), Q s (μ s) ∧ ∀ k, Q s k → μ s ≤ k := fun s hx => by
    simp only [μ, dif_pos hx]; exact Classical.choose_spec (hl s hx)
  refine ⟨n1, fun _ => n2, I, μ, nz_mono (fun s e => ⟨_, s, a0, e.2, hJ, by
    obtain ⟨⟨e1, e2⟩, _⟩ := e
    obtain ⟨tm, own⟩ := s
    simp only at e1 e2 ⊢
    rw [← e1, ← e2], rfl⟩) h, fun s hs => ?_⟩
  obtain ⟨⟨t, a, hG, h1, h2, h3⟩, _⟩ := hμ s hs
  subst h2
  refine hG a h1 (fun s'' => I s'' ∧ μ s'' < μ ⟨setL t.tm (f a), setO t.own (g a)⟩) fun b hb hlt => ?_
  have hb' : I ⟨setL t.tm (f b), setO t.own (g b)⟩ := ⟨_, t, b, hG, hb, rfl, rfl⟩
  refine ⟨hb', ?_⟩
  have := (hμ _ hb').2 (m b) ⟨t, b, hG, hb, rfl, rfl⟩
  omega
/-- what is forgotten at a round's end hangs on what was made in it -/
def nzIf (k : Nat) (s : St) (a b : List Nz) : List Nz := match notIn k (keysOf s.own) with
  | true => b
  | false => a
/-- the same; at a round's end by what there is -/
theorem loopFn {α : Type} {prot : List Nat} {W : St → (Ex → St → Prop) → Prop} {st : St} {K : Ex → St → Prop} (n1 : List Nz) (n2 : St → List Nz) (f : α → List (Nat × V)) (o : α → Own) (J : α → Prop) (m : α → Nat) (a0 : α) (hJ : J a0)
    (h : nzK prot n1 st fun s => (s.tm = setL s.tm (f a0) ∧ s.own = o a0) ∧ ∀ a, J a → ∀ C : St → Prop, (∀ b, J b → m b < m a → C ⟨setL s.tm (f b), o b⟩) → W ⟨setL s.tm (f a), o a⟩ fun e s' => match e with
      | .normal => nzK prot (n2 s') s' C
      | e => K e s') : loopK prot W st K := by
  unfold loopK
  let G : List V → Prop := fun tm => ∀ a, J a → ∀ C : St → Prop, (∀ b, J b → m b < m a → C ⟨setL tm (f b), o b⟩) → W ⟨setL tm (f a), o a⟩ fun e s' => match e with
      | .normal => nzK prot (n2 s') s' C
      | e => K e s'
  let Q : St → Nat → Prop := fun s n => ∃ tm a, G tm ∧ J a ∧ s = ⟨setL tm (f a), o a⟩ ∧ m a = n
  let I : St → Prop := fun s => ∃ n, Q s n
  have hl : ∀ s, I s → ∃ n, Q s n ∧ ∀ k, Q s k → n ≤ k := fun s ⟨n, hn⟩ => least_of n hn
  classical
  let μ : St → Nat := fun s => if hx : I s then Classical.choose (hl s hx) else 0
  have hμ : ∀ s (hx : I s), Q s (μ s) ∧ ∀ k, Q s k → μ s ≤ k := fun s hx => by
    simp only [μ, dif_pos hx]; exact Classical.choose_spec (hl s hx)
  refine ⟨n1, n2, I, μ, nz_mono (fun s e => ⟨_, s.tm, a0, e.2, hJ, by
    obtain ⟨⟨e1, e2⟩, _⟩ := e
    obtain ⟨tm, own⟩ := s
    simp only at e1 e2 ⊢
    rw [← e1, e2], rfl⟩) h, fun s hs => ?_⟩
  obtain ⟨⟨tm, a, hG, h1, h2, h3⟩, _⟩ := hμ s hs
  subst h2
  refine hG a h1 (fun s'' => I s'' ∧ μ s'' < μ ⟨setL tm (f a), o a⟩) fun b hb hlt => ?_
  have hb' : I ⟨setL tm (f b), o b⟩ := ⟨_, tm, b, hG, hb, rfl, rfl⟩
  refine ⟨hb', ?_⟩
  have := (hμ _ hb').2 (m b) ⟨tm, b, hG, hb, rfl, rfl⟩
  omega
theorem loopC {C : St → Prop} {s s' : St} (h : C s) (e : s = s') : C s' := e ▸ h

/-! ### lists of numbers -/
def T.n : T → Int
  | .int _ n => n
  | _ => 0
def nums (xs : List T) : List Int := xs.map T.n
def us (l : List Int) : List T := l.map (T.int .u64)
def is (l : List Int) : List T := l.map (T.int .i64)
def bs (l : List Int) : List T := l.map (T.int .u8)
def R8 (s : Int) : Prop := 0 ≤ s ∧ s ≤ 255
def IsU (xs : List T) : Prop := ∃ l, xs = us l ∧ ∀ n ∈ l, R64 n
def IsI (xs : List T) : Prop := ∃ l, xs = is l ∧ ∀ n ∈ l, I64 n
def IsB (xs : List T) : Prop := ∃ l, xs = bs l ∧ ∀ n ∈ l, R8 n
@[simp] theorem nums_us (l : List Int) : nums (us l) = l := by simp [nums, us, T.n, Function.comp_def]
@[simp] theorem nums_is (l : List Int) : nums (is l) = l := by simp [nums, is, T.n, Function.comp_def]
@[simp] theorem nums_bs (l : List Int) : nums (bs l) = l := by simp [nums, bs, T.n, Function.comp_def]
@[simp] theorem us_len (l : List Int) : (us l).length = l.length := by simp [us]
@[simp] theorem is_len (l : List Int) : (is l).length = l.length := by simp [is]
@[simp] theorem bs_len (l : List Int) : (bs l).length = l.length := by simp [bs]
theorem us_ne {l : List Int} (h : 0 < l.length) : us l ≠ [] := by cases l <;> simp [us] at *
theorem is_ne {l : List Int} (h : 0 < l.length) : is l ≠ [] := by cases l <;> simp [is] at *
theorem us_get {l : List Int} {i : Nat} (h : i < l.length) : (us l)[i]? = some (.int .u64 (l[i]?.getD 0)) := by simp [us, h]
theorem is_get {l : List Int} {i : Nat} (h : i < l.length) : (is l)[i]? = some (.int .i64 (l[i]?.getD 0)) := by simp [is, h]
theorem bs_get {l : List Int} {i : Nat} (h : i < l.length) : (bs l)[i]? = some (.int .u8 (l[i]?.getD 0)) := by simp [bs, h]
theorem us_set (l : List Int) (i : Nat) (n : Int) : (us l).set i (.int .u64 n) = us (l.set i n) := by simp [us, List.map_set]
theorem is_set (l : List Int) (i : Nat) (n : Int) : (is l).set i (.int .i64 n) = is (l.set i n) := by simp [is, List.map_set]
theorem us_app (a b : List Int) : us a ++ us b = us (a ++ b) := by simp [us]
theorem is_app (a b : List Int) : is a ++ is b = is (a ++ b) := by simp [is]
theorem isU_us {l : List Int} (h : ∀ n ∈ l, R64 n) : IsU (us l) := ⟨l, rfl, h⟩
theorem isI_is {l : List Int} (h : ∀ n ∈ l, I64 n) : IsI (is l) := ⟨l, rfl, h⟩
@[simp] theorem subL_00 (ts : List T) : subL ts 0 none = ts := rfl
@[simp] theorem lenL_00 (ts : List T) : lenL ts 0 none = ts.length := rfl
@[simp] theorem natadd0 (n : Nat) : Nat.add 0 n = n := Nat.zero_add n
/-- an element, or 0 -/
def at0 (l : List Int) (i : Int) : Int := l[i.toNat]?.getD 0
theorem at0_mem {l : List Int} {i : Int} (h : i.toNat < l.length) : at0 l i ∈ l := by simp [at0, h]
theorem nth_us {l : List Int} {i : Int} {K : T → Prop} (h0 : 0 ≤ i) (h1 : i < l.length) (h : K (.int .u64 (at0 l i))) : nthK (us l) i K :=
  nthK_of (.int .u64 (at0 l i)) h0 (us_get (by omega)) h
theorem nth_is {l : List Int} {i : Int} {K : T → Prop} (h0 : 0 ≤ i) (h1 : i < l.length) (h : K (.int .i64 (at0 l i))) : nthK (is l) i K :=
  nthK_of (.int .i64 (at0 l i)) h0 (is_get (by omega)) h
theorem nth_bs {l : List Int} {i : Int} {K : T → Prop} (h0 : 0 ≤ i) (h1 : i < l.length) (h : K (.int .u8 (at0 l i))) : nthK (bs l) i K :=
  nthK_of (.int .u8 (at0 l i)) h0 (bs_get (by omega)) h
/-- the facts of a walk, as one -/
theorem fx : (∀ a : Bool, (!a) = true ↔ a = false) ∧ (∀ a : Bool, (!a) = false ↔ a = true) ∧ (∀ a b : Int, ltI a b = true ↔ a < b) ∧ (∀ a b : Int, ltI a b = false ↔ b ≤ a) ∧ (∀ a b : Int, leI a b = true ↔ a ≤ b) ∧ (∀ a b : Int, leI a b = false ↔ b < a) ∧
    (∀ a b : Int, eqI a b = true ↔ a = b) ∧ (∀ a b : Int, eqI a b = false ↔ a ≠ b) ∧ (∀ l : List Int, (us l).length = l.length) ∧ (∀ l : List Int, (is l).length = l.length) ∧ (∀ l : List Int, (bs l).length = l.length) ∧ (∀ ts : List T, lenL ts 0 none = ts.length) :=
  ⟨fun _ => not_t, fun _ => not_f, fun _ _ => lt_t, fun _ _ => lt_f, fun _ _ => le_t, fun _ _ => le_f, fun _ _ => eq_t, fun _ _ => eq_f, us_len, is_len, bs_len, lenL_00⟩
end Go.Nx
