/-
  BagLess: walked.
-/
import Derived.Test.YtommbfigioeghaaBl
import Derived.Test.YtommbfigioeghaaBg
set_option linter.unusedVariables false
set_option linter.unusedSimpArgs false
set_option maxRecDepth 20000
set_option maxHeartbeats 8000000
namespace Go.Nx
open Go.RowKit Go.Proofs

noncomputable def lLL : List (Nat × (List T → Ans)) := (19, c19) :: lB9
noncomputable def iLL : List (Nat × Pt) := iB9
noncomputable abbrev LL : Env := En tgl lLL iLL
theorem env_LL : EnvOk Try.prog LL := (env_fn env_B9 (fun _ _ => got19) (fun vs p d sz xs h _ => (nogl19 vs p d sz xs h).elim) pk19)
def enK (a b : List Int) (k : Nat) : Bool := decide (∀ j, j < k → b.count (at0 b j) ≤ a.count (at0 b j))
theorem enK_0 (a b : List Int) : enK a b 0 = true := by unfold enK; rw [decide_eq_true_iff]; intro j hj; omega
theorem enK_1 {a b : List Int} {k : Nat} (h : enK a b k = true) : enK a b (k + 1) = leI ((b.count (at0 b k) : Nat) : Int) ((a.count (at0 b k) : Nat) : Int) := by
  unfold enK at h ⊢
  rw [decide_eq_true_iff] at h
  rw [leI_def, Bool.eq_iff_iff, decide_eq_true_iff, decide_eq_true_iff]
  constructor
  · intro g; have := g k (by omega); omega
  · intro g j hj
    rcases Nat.lt_succ_iff_lt_or_eq.1 hj with h1 | h1
    · exact h j h1
    · subst h1; omega
theorem enK_2 {a b : List Int} {k : Nat} (h : enK a b k = false) : enK a b (k + 1) = false := by
  unfold enK at h ⊢
  rw [decide_eq_false_iff_not] at h ⊢
  intro g; exact h fun j hj => g j (by omega)
theorem enK_end (a b : List Int) : enK a b b.length = lessB a b := by
  rw [Bool.eq_iff_iff, lessB_iff]
  unfold enK
  rw [decide_eq_true_iff]
  constructor
  · intro h o
    by_cases ho : o ∈ b
    · obtain ⟨j, hj, e⟩ := List.mem_iff_getElem.1 ho
      have := h j hj
      have e2 : at0 b (j : Int) = o := by simp [at0, hj, e]
      rwa [e2] at this
    · rw [List.count_eq_zero.2 ho]; omega
  · intro h j _; exact h _
theorem less_perm {a b : List Int} (h : lessB a b = true) : (lessL a b ++ b).Perm a := perm_count.2 fun o => by
  have h1 := (lessB_iff a b).1 h o
  have h2 := (less_count a b o).1
  rw [List.count_append]; omega
theorem less_I {a b : List Int} (h : ∀ n ∈ a, I64 n) : ∀ n ∈ lessL a b, I64 n := fun n hn => by
  refine h n (List.count_pos_iff.1 ?_)
  have h1 := (less_count a b n).1
  have h2 := List.count_pos_iff.2 hn
  omega
theorem ok6 (xs ys : List T) (hq : (IsI xs ∧ SzA xs) ∧ (IsI ys ∧ SzA ys)) : FnOk Try.prog tgl 6 [.list 1 xs, .list 1 ys] (.bool true) := by
  refine fn_ok (Γ := LL) env_LL Try.func6 low6 ?_
  obtain ⟨⟨⟨a, rfl, ha⟩, sa⟩, ⟨b, rfl, hb⟩, sb⟩ := hq
  have q1 : (IsI (is a) ∧ SzB (is a)) ∧ (IsI (is b) ∧ SzB (is b)) := ⟨⟨isI_is ha, szA_B sa⟩, isI_is hb, szA_B sb⟩
  have q2 := q1.1
  have q3 := q1.2
  have hla := sz_lenB q1.1.2
  have hlb := sz_lenB q1.2.2
  conv => whnf
  repeat' (first
    | (refine brK_true rfl ?_; conv => whnf)
    | (refine brK_false rfl ?_; conv => whnf)
    | (refine brK_true (by assumption) ?_; conv => whnf)
    | (refine brK_false (by assumption) ?_; conv => whnf)
    | (refine brK_true ?_ ?_; (focus (simp only [List.length_nil, fx] <;> omega)); conv => whnf)
    | (refine brK_false ?_ ?_; (focus (simp only [List.length_nil, fx] <;> omega)); conv => whnf)
    | ((refine brK_of (fun h => ?_) (fun h => ?_)) <;> (have h2 := h; (try simp only [List.length_nil, fx] at h2); conv => whnf))
    | (refine reqK_of ?_ ?_; (focus (first | decide | omega | assumption | (simp only [List.length_nil, fx] <;> omega) | (simp [keyNew, sameKey, kEq] <;> omega))); conv => whnf)
    | (refine reqK_of ?_ ?_; rotate_left; (conv => whnf); rotate_left)
    | (refine nth_us ?_ ?_ ?_; (focus (first | omega | (simp only [List.length_nil, fx] <;> omega))); (focus (first | omega | (simp only [List.length_nil, fx] <;> omega))); conv => whnf)
    | (refine nth_is ?_ ?_ ?_; (focus (first | omega | (simp only [List.length_nil, fx] <;> omega))); (focus (first | omega | (simp only [List.length_nil, fx] <;> omega))); conv => whnf)
    | (refine nth_bs ?_ ?_ ?_; (focus (first | omega | (simp only [List.length_nil, fx] <;> omega))); (focus (first | omega | (simp only [List.length_nil, fx] <;> omega))); conv => whnf))
  refine loopSet [] [.kill 19, .kill 20, .kill 21, .kill 22, .kill 23, .kill 24, .kill 25, .kill 26, .kill 27, .kill 28, .kill 29, .kill 30, .kill 31, .kill 32, .kill 33, .kill 34, .kill 35, .kill 36, .kill 37, .kill 38, .kill 39, .kill 40] (fun k : Nat => [(8, .t (.bool (enK a b k))), (9, .t (.int .i64 (k : Int)))]) (fun _ => []) (fun k => k ≤ b.length) (fun k => b.length - k) 0 (Nat.zero_le _) ?_
  conv => whnf
  refine ⟨⟨?_, rfl⟩, fun k hk C hC => ?_⟩
  · rw [enK_0]; rfl
  have hw : IntKind.i64.wrap ((k : Int) + 1) = (k : Int) + 1 := wrap_i64 ⟨by omega, by omega⟩
  conv => whnf
  repeat' (first
    | (refine brK_true rfl ?_; conv => whnf)
    | (refine brK_false rfl ?_; conv => whnf)
    | (refine brK_true (by assumption) ?_; conv => whnf)
    | (refine brK_false (by assumption) ?_; conv => whnf)
    | (refine brK_true ?_ ?_; (focus (simp only [List.length_nil, fx, nums_is] <;> omega)); conv => whnf)
    | (refine brK_false ?_ ?_; (focus (simp only [List.length_nil, fx, nums_is] <;> omega)); conv => whnf)
    | ((refine brK_of (fun h => ?_) (fun h => ?_)) <;> (have h2 := h; (try simp only [List.length_nil, fx, nums_is] at h2); conv => whnf))
    | (refine reqK_of ?_ ?_; (focus (first | decide | omega | assumption | (simp only [List.length_nil, fx, nums_is] <;> omega) | (simp [keyNew, sameKey, kEq] <;> omega))); conv => whnf)
    | (refine reqK_of ?_ ?_; rotate_left; (conv => whnf); rotate_left)
    | (refine nth_us ?_ ?_ ?_; (focus (first | omega | (simp only [List.length_nil, fx, nums_is] <;> omega))); (focus (first | omega | (simp only [List.length_nil, fx, nums_is] <;> omega))); conv => whnf)
    | (refine nth_is ?_ ?_ ?_; (focus (first | omega | (simp only [List.length_nil, fx, nums_is] <;> omega))); (focus (first | omega | (simp only [List.length_nil, fx, nums_is] <;> omega))); conv => whnf)
    | (refine nth_bs ?_ ?_ ?_; (focus (first | omega | (simp only [List.length_nil, fx, nums_is] <;> omega))); (focus (first | omega | (simp only [List.length_nil, fx, nums_is] <;> omega))); conv => whnf))
  · rename_i he
    refine loopC (hC (k + 1) (by omega) (by omega)) ?_
    rw [enK_1 (by assumption), hw, Int.natCast_succ, nums_is, nums_is]; rfl
  · refine loopC (hC (k + 1) (by omega) (by omega)) ?_
    rw [enK_2 (by assumption), hw, Int.natCast_succ]; rfl
  all_goals (have hkl : k = b.length := by omega)
  all_goals subst hkl
  all_goals rw [nums_is, nums_is, enK_end] at *
  · rename_i h2
    rw [eqB_def] at h2; simp at h2
  all_goals try simp only [nums_is] at *
  · have hll := less_len_le a b
    have hlE : (lessL a b).length + b.length = a.length := by
      have this : lessB a b = true := by assumption
      unfold lessB at this
      exact of_decide_eq_true this
    have hI : lessI a b = lessL a b := by unfold lessI; rw [if_pos (by assumption)]
    rw [hI]
    refine ⟨⟨isI_is (less_I ha), isI_is hb⟩, ?_⟩
    rw [is_len, is_len]; unfold maxBytes; omega
  · have hlE : (lessL a b).length + b.length = a.length := by
      have this : lessB a b = true := by assumption
      unfold lessB at this
      exact of_decide_eq_true this
    have hI : lessI a b = lessL a b := by unfold lessI; rw [if_pos (by assumption)]
    rw [hI]
    refine ⟨⟨isI_srt fun n hn => ?_, sz_B ?_⟩, q2⟩
    · rcases List.mem_append.1 hn with g | g
      · exact less_I ha n g
      · exact hb n g
    · rw [srt_len, List.length_append]; omega
  · exfalso
    have hne : eqNs (srt (srt (lessI a b ++ b))) (srt a) = false := by assumption
    have hI : lessI a b = lessL a b := by unfold lessI; rw [if_pos (by assumption)]
    rw [hI] at hne
    have : eqNs (srt (srt (lessL a b ++ b))) (srt a) = true := by
      rw [eqNs_iff, srt_srt, srt_eq]; exact less_perm (by assumption)
    rw [this] at hne; cases hne
  · have hI : lessI a b = [] := by unfold lessI; rw [if_neg (by simp [*])]
    rw [hI]; exact congrArg T.bool (eq_t.2 rfl)
open Classical in
noncomputable def c6 : List T → Ans
  | [.list 1 xs, .list 1 ys] => .req ((IsI xs ∧ SzA xs) ∧ (IsI ys ∧ SzA ys)) (.bool true)
  | _ => .no
theorem got6 {vs : List T} {x : T} (h : Got (c6 vs) x) : FnOk Try.prog tgl 6 vs x := by
  unfold c6 at h
  split at h
  · obtain ⟨hq, e⟩ := got_req h; rw [e]; exact ok6 _ _ hq
  · exact (got_no h).elim
theorem nogl6 (vs : List T) (p : Prop) (d : Decidable p) (sz : Nat) (xs : List T) (h : c6 vs = @Ans.gl p d sz xs) : False := by
  unfold c6 at h
  split at h <;> cases h
theorem pk6 (vs : List T) (p : Prop) (d : Decidable p) (x : T) (h : c6 vs = @Ans.pk p d x) (hp : p) : FnOk Try.prog tgl 6 vs x := by
  unfold c6 at h
  split at h
  · cases h
  · cases h
end Go.Nx
