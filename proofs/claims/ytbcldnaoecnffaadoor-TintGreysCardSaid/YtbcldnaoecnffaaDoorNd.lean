/-
  LOOPS OVER SETS.
-/
import Derived.Test.YtbcldnaoecnffaaDoorNc
set_option linter.unusedVariables false
namespace Go.Mx
open Go.RowKit Go.Proofs

theorem least_of {Q : Nat → Prop} : ∀ n, Q n → ∃ m, Q m ∧ ∀ k, Q k → m ≤ k := by
  intro n
  induction n using Nat.strongRecOn with
  | ind n ih =>
    intro h
    by_cases c : ∃ k, k < n ∧ Q k
    · obtain ⟨k, h1, h2⟩ := c; exact ih k h1 h2
    · refine ⟨n, h, fun k hk => ?_⟩
      rcases Nat.lt_or_ge k n with h3 | h3
      · exact (c ⟨k, h3, hk⟩).elim
      · exact h3
open Classical in
/-- a loop, by a family of states -/
theorem loopAt {α : Type} {W : St → (Ex → St → Prop) → Prop} {st : St} {K : Ex → St → Prop} (kt kk : List Nat) (S : α → St) (J : α → Prop) (m : α → Nat) (a0 : α) (hJ : J a0) (h0 : st = S a0)
    (h : ∀ a, J a → ∀ C : St → Prop, (∀ b, J b → m b < m a → C (S b)) → W (S a) fun e s' => match e with
      | .normal => killK kt kk s' C
      | e => K e s') : loopK W st K := by
  unfold loopK
  let Q : St → Nat → Prop := fun s n => ∃ a, J a ∧ s = S a ∧ m a = n
  let I : St → Prop := fun s => ∃ n, Q s n
  have hl : ∀ s, I s → ∃ n, Q s n ∧ ∀ k, Q s k → n ≤ k := fun s ⟨n, hn⟩ => least_of n hn
  let μ : St → Nat := fun s => if hx : I s then Classical.choose (hl s hx) else 0
  have hμ : ∀ s (hx : I s), Q s (μ s) ∧ ∀ k, Q s k → μ s ≤ k := fun s hx => by
    simp only [μ, dif_pos hx]; exact Classical.choose_spec (hl s hx)
  refine ⟨kt, kk, I, μ, ⟨_, a0, hJ, h0, rfl⟩, fun s hs => ?_⟩
  obtain ⟨⟨a, h1, h2, h3⟩, _⟩ := hμ s hs
  subst h2
  refine h a h1 (fun s'' => I s'' ∧ μ s'' < μ (S a)) fun b hb hlt => ?_
  have hb' : I (S b) := ⟨_, b, hb, rfl, rfl⟩
  refine ⟨hb', ?_⟩
  have := (hμ _ hb').2 (m b) ⟨b, hb, rfl, rfl⟩
  omega
theorem loopC {C : St → Prop} {s s' : St} (h : C s) (e : s = s') : C s' := e ▸ h

theorem first_get (n : Int) (i : Nat) (hi : i < 64) : (first n).getLsbD i = decide ((i : Int) < n) := by
  unfold first
  split
  · rename_i h
    rw [decide_eq_false (by omega)]; exact BitVec.getLsbD_zero
  · rename_i h
    rw [BitVec.getLsbD_ushiftRight, BitVec.getLsbD_allOnes]
    rw [Bool.eq_iff_iff]; simp only [decide_eq_true_eq]
    omega
theorem first_add (o : Int) (h : 1 ≤ o) (h' : o ≤ 64) : add (first (o - 1)) o = first o := by
  apply BitVec.eq_of_getLsbD_eq
  intro i hi
  rw [add, BitVec.getLsbD_or, first_get _ _ hi, first_get _ _ hi, bit_get, obj_t h h', Bool.true_and, ← Bool.decide_or]
  apply decide_eq_decide.2
  omega
theorem first_big (n : Int) (h : 64 ≤ n) : first n = first 64 := by
  unfold first
  rw [if_neg (by omega), if_neg (by omega)]
  congr 2
  omega
theorem first_small (n : Int) (h : n < 1) : first n = 0 := by unfold first; rw [if_pos h]
def c36 : List T → Ans
  | [.int .i64 n] => .yes (.int .u64 (iv (first n)))
  | _ => .no
theorem ok36 (n : Int) : FnOk Tryd.prog tgl 36 [.int .i64 n] (.int .u64 (iv (first n))) := by
  refine fn_ok (Γ := e2) env2 Tryd.func36 low36 ?_
  conv => whnf
  refine loopAt [5, 6, 7, 8, 9, 10, 11, 12, 13, 14, 15, 16] [] (fun o : Int => ⟨[.t (.int .i64 n), .dead, .t (.int .u64 0), .t (.int .u64 (iv (first (o - 1)))), .t (.int .i64 o), .dead, .dead, .dead, .dead, .dead, .dead, .dead, .dead, .dead, .dead, .dead, .dead, .dead], []⟩)
    (fun o => 1 ≤ o ∧ o ≤ 65 ∧ (o = 1 ∨ o - 1 ≤ n)) (fun o => (65 - o).toNat) 1 (by omega) ?_ fun o hJ C hC => ?_
  · rw [first_small _ (by omega)]; rfl
  obtain ⟨h1, h2, h3⟩ := hJ
  conv => whnf
  repeat' (first | (refine brK_true (by assumption) ?_; conv => whnf) | (refine brK_false (by assumption) ?_; conv => whnf) | (refine brK_of (fun h => ?_) (fun h => ?_) <;> conv => whnf) | (refine reqK_of ?_ ?_; rotate_left; (conv => whnf); rotate_left))
  · exact R_iv _
  · rename_i h'
    rw [le_t] at h h'
    refine loopC (hC (o + 1) (by omega) (by omega)) ?_
    have e : o + 1 - 1 = o := by omega
    rw [bv_iv, first_add _ h1 h, e, wrap_i64 ⟨by omega, by omega⟩]
  · rename_i h'
    rw [le_t] at h'
    rw [le_f] at h
    rw [show o - 1 = 64 by omega, ← first_big n (by omega)]
  · rw [le_f] at h
    rcases h3 with h3 | h3
    · rw [h3, first_small _ (by omega), first_small _ (by omega)]
    · rw [show o - 1 = n by omega]
theorem got36 {vs : List T} {x : T} (h : Got (c36 vs) x) : FnOk Tryd.prog tgl 36 vs x := by
  unfold c36 at h
  split at h
  · rw [got_yes h]; exact ok36 _
  · exact (got_no h).elim
def l3 : List (Nat × (List T → Ans)) := (36, c36) :: l2
def e3 : Env := ⟨ansL l3, tgl⟩
theorem env3 : EnvOk Tryd.prog e3 := (env_cons env2 fun _ _ => got36)
end Go.Mx
