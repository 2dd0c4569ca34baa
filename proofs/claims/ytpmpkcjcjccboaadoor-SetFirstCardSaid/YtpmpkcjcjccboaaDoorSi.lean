/-
  SETS: FIRST.
-/
import Derived.Test.YtpmpkcjcjccboaaDoorSg
import Derived.Test.YtpmpkcjcjccboaaDoorSo
set_option linter.unusedVariables false
set_option linter.unusedSimpArgs false
set_option maxRecDepth 20000
set_option maxHeartbeats 4000000
namespace Go.Nx
open Go.RowKit Go.Proofs

theorem first_len : ∀ k : Fin 65, (lsL (first ((k.val : Nat) : Int))).length = k.val := by decide +kernel
theorem first_clamp (n : Int) : ∃ k : Nat, k ≤ 64 ∧ minI (maxI n 0) 64 = (k : Int) ∧ first n = first (k : Int) := by
  refine ⟨(min (max n 0) 64).toNat, by omega, ?_, ext_has fun o h1 h2 => ?_⟩
  · rw [minI_def, maxI_def]; split <;> split <;> omega
  · rw [has_first, has_first]
    congr 1
    rw [decide_eq_decide]; omega
noncomputable def lE3b : List (Nat × (List T → Ans)) := (9, c9) :: lE2
noncomputable def iE3b : List (Nat × Pt) := iE2
noncomputable abbrev E3b : Env := En tgl lE3b iE3b
theorem env_E3b : EnvOk Tryd.prog E3b := (env_fn env_E2 (fun _ _ => got9) (fun vs p d sz xs h _ => (nogl9 vs p d sz xs h).elim) pk9)
theorem ok8 (n : Int) (hq : I64 n) : FnOk Tryd.prog tgl 8 [.int .i64 n] (.bool true) := by
  refine fn_ok (Γ := E3b) env_E3b Tryd.func8 low8 ?_
  obtain ⟨k, hk, hm, hf⟩ := first_clamp n
  have f1 : ((lsL (first n)).length : Int) = minI (maxI n 0) 64 := by rw [hm, hf, first_len ⟨k, by omega⟩]
  have f2 : has (first n) (minI (maxI n 0) 64) = ltI 0 (minI (maxI n 0) 64) := by
    rw [hm, hf, has_first, ltI_def]
    by_cases h : (0 : Int) < k
    · rw [obj_iff.2 ⟨by omega, by omega⟩]; simp [h]; omega
    · rw [obj_f (.inl (by omega))]; simp; omega
  have f3 : has (first n) (IntKind.i64.wrap (minI (maxI n 0) 64 + 1)) = false := by
    rw [hm, hf, wrap_i64 ⟨by omega, by omega⟩, has_first]
    have : ¬ ((k : Int) + 1 ≤ k) := by omega
    simp [this]
  have f4 : under (first n) (first (IntKind.i64.wrap (minI n 1099511627776 + 1))) = true := by
    have hn2 := hq.1
    have e : minI n 1099511627776 = min n 1099511627776 := by rw [minI_def]; split <;> omega
    rw [e, wrap_i64 ⟨by unfold I64 at hq; omega, by omega⟩, under_iff]
    intro o ho
    rw [has_first] at ho ⊢
    simp only [Bool.and_eq_true, decide_eq_true_eq] at ho ⊢
    have := obj_iff.1 ho.1
    exact ⟨ho.1, by omega⟩
  clear hk hm hf
  conv => whnf
  repeat' (first
    | (refine brK_true rfl ?_; conv => whnf)
    | (refine brK_false rfl ?_; conv => whnf)
    | (refine brK_true (by assumption) ?_; conv => whnf)
    | (refine brK_false (by assumption) ?_; conv => whnf)
    | (refine brK_true ?_ ?_; (focus (simp only [List.length_nil, fx] <;> omega)); conv => whnf)
    | (refine brK_false ?_ ?_; (focus (simp only [List.length_nil, fx] <;> omega)); conv => whnf)
    | ((refine brK_of (fun h => ?_) (fun h => ?_)) <;> (have h2 := h; (try simp only [List.length_nil, fx] at h2); conv => whnf))
    | (refine reqK_of ?_ ?_; (focus (first | decide | omega | assumption | (simp only [List.length_nil, fx] <;> omega) | (simp [keyNew, sameKey, kEq] <;> omega))); conv => whnf)
    | (refine reqK_of ?_ ?_; rotate_left; (conv => whnf); rotate_left)
    | (refine nth_us ?_ ?_ ?_; (focus (first | omega | (simp only [List.length_nil, fx] <;> omega))); (focus (first | omega | (simp only [List.length_nil, fx] <;> omega))); conv => whnf)
    | (refine nth_is ?_ ?_ ?_; (focus (first | omega | (simp only [List.length_nil, fx] <;> omega))); (focus (first | omega | (simp only [List.length_nil, fx] <;> omega))); conv => whnf)
    | (refine nth_bs ?_ ?_ ?_; (focus (first | omega | (simp only [List.length_nil, fx] <;> omega))); (focus (first | omega | (simp only [List.length_nil, fx] <;> omega))); conv => whnf))
  all_goals try exact R_iv _
  all_goals try simp only [bv_iv, iv_inj, eqI_iv, eqB_def] at *
  all_goals first
    | (rw [f4]; done)
    | (simp_all; done)
open Classical in
noncomputable def c8 : List T → Ans
  | [.int .i64 n] => .req (I64 n) (.bool true)
  | _ => .no
theorem got8 {vs : List T} {x : T} (h : Got (c8 vs) x) : FnOk Tryd.prog tgl 8 vs x := by
  unfold c8 at h
  split at h
  · obtain ⟨hq, e⟩ := got_req h; rw [e]; exact ok8 _ hq
  · exact (got_no h).elim
theorem nogl8 (vs : List T) (p : Prop) (d : Decidable p) (sz : Nat) (xs : List T) (h : c8 vs = @Ans.gl p d sz xs) : False := by
  unfold c8 at h
  split at h <;> cases h
theorem pk8 (vs : List T) (p : Prop) (d : Decidable p) (x : T) (h : c8 vs = @Ans.pk p d x) (hp : p) : FnOk Tryd.prog tgl 8 vs x := by
  unfold c8 at h
  split at h
  · cases h
  · cases h
end Go.Nx
