/-
  BagSums: walked, where the bags are small.
-/
import Derived.Test.YtommbfigioeghaaBp
set_option linter.unusedVariables false
set_option linter.unusedSimpArgs false
set_option maxRecDepth 20000
set_option maxHeartbeats 8000000
namespace Go.Nx
open Go.RowKit Go.Proofs

theorem sum_less (a b : List Int) : lessB (srt (a ++ b)) a = true ∧ (lessI (srt (a ++ b)) a).Perm b ∧ lessB (srt (a ++ b)) b = true ∧ (lessI (srt (a ++ b)) b).Perm a := by
  have h1 : lessB (srt (a ++ b)) a = true := by rw [lessB_iff]; intro o; rw [srt_count, List.count_append]; omega
  have h2 : lessB (srt (a ++ b)) b = true := by rw [lessB_iff]; intro o; rw [srt_count, List.count_append]; omega
  refine ⟨h1, ?_, h2, ?_⟩
  · unfold lessI
    rw [if_pos h1]
    exact perm_count.2 fun o => by rw [(less_count _ _ o).1, srt_count, List.count_append]; omega
  · unfold lessI
    rw [if_pos h2]
    exact perm_count.2 fun o => by rw [(less_count _ _ o).1, srt_count, List.count_append]; omega
theorem lessI_I {a b : List Int} (h : ∀ n ∈ a, I64 n) : ∀ n ∈ lessI a b, I64 n := fun n hn => by
  unfold lessI at hn
  split at hn
  · exact less_I h n hn
  · cases hn
theorem lessI_len (a b : List Int) : (lessI a b).length ≤ a.length := by
  unfold lessI
  split
  · exact less_len_le a b
  · simp
theorem ok5 (xs ys : List T) (o : Int) (hq : ((IsI xs ∧ xs.length ≤ 1048576) ∧ (IsI ys ∧ ys.length ≤ 1048576)) ∧ I64 o) : FnOk Try.prog tgl 5 [.list 1 xs, .list 1 ys, .int .i64 o] (.bool true) := by
  refine fn_ok (Γ := LL) env_LL Try.func5 low5 ?_
  obtain ⟨⟨⟨⟨a, rfl, ha⟩, sa⟩, ⟨b, rfl, hb⟩, sb⟩, ho⟩ := hq
  rw [is_len] at sa sb
  have hab : ∀ n ∈ a ++ b, I64 n := fun n hn => by
    rcases List.mem_append.1 hn with h | h
    · exact ha n h
    · exact hb n h
  have hba : ∀ n ∈ b ++ a, I64 n := fun n hn => by
    rcases List.mem_append.1 hn with h | h
    · exact hb n h
    · exact ha n h
  have qa : IsI (is a) ∧ SzB (is a) := ⟨isI_is ha, sz_B (by omega)⟩
  have qb : IsI (is b) ∧ SzB (is b) := ⟨isI_is hb, sz_B (by omega)⟩
  have q1 : (IsI (is a) ∧ IsI (is b)) ∧ ((is a).length + (is b).length) * 8 ≤ maxBytes := ⟨⟨qa.1, qb.1⟩, by rw [is_len, is_len]; unfold maxBytes; omega⟩
  have q2 : (IsI (is b) ∧ IsI (is a)) ∧ ((is b).length + (is a).length) * 8 ≤ maxBytes := ⟨⟨qb.1, qa.1⟩, by rw [is_len, is_len]; unfold maxBytes; omega⟩
  have hsl : (srt (a ++ b)).length = a.length + b.length := by rw [srt_len, List.length_append]
  have hsl2 : (srt (b ++ a)).length = b.length + a.length := by rw [srt_len, List.length_append]
  have qs : IsI (is (srt (a ++ b))) ∧ SzB (is (srt (a ++ b))) := ⟨isI_srt hab, sz_B (by omega)⟩
  have qs2 : IsI (is (srt (b ++ a))) ∧ SzB (is (srt (b ++ a))) := ⟨isI_srt hba, sz_B (by omega)⟩
  obtain ⟨g1, g2, g3, g4⟩ := sum_less a b
  have ql1 : IsI (is (lessI (srt (a ++ b)) a)) ∧ SzB (is (lessI (srt (a ++ b)) a)) := ⟨isI_is (lessI_I (srt_I hab)), sz_B (by have := lessI_len (srt (a ++ b)) a; omega)⟩
  have ql2 : IsI (is (lessI (srt (a ++ b)) b)) ∧ SzB (is (lessI (srt (a ++ b)) b)) := ⟨isI_is (lessI_I (srt_I hab)), sz_B (by have := lessI_len (srt (a ++ b)) b; omega)⟩
  have f1 : eqNs (srt (lessI (srt (a ++ b)) a)) (srt b) = true := eqNs_iff.2 (srt_eq.2 g2)
  have f2 : eqNs (srt (lessI (srt (a ++ b)) b)) (srt a) = true := eqNs_iff.2 (srt_eq.2 g4)
  have f3 : eqNs (srt (srt (a ++ b))) (srt (srt (b ++ a))) = true := by
    rw [srt_srt, srt_srt]; exact eqNs_iff.2 (srt_eq.2 List.perm_append_comm)
  have f4 : (srt (a ++ b)).count o = a.count o + b.count o := by rw [srt_count, List.count_append]
  have c1 := List.count_le_length (a := o) (l := a)
  have c2 := List.count_le_length (a := o) (l := b)
  have w1 : IntKind.i64.wrap ((a.count o : Int) + (b.count o : Int)) = (a.count o : Int) + (b.count o : Int) := wrap_i64 ⟨by omega, by omega⟩
  have w2 : IntKind.i64.wrap ((a.length : Int) + (b.length : Int)) = (a.length : Int) + (b.length : Int) := wrap_i64 ⟨by omega, by omega⟩
  conv => whnf
  repeat' (first
    | (refine brK_true rfl ?_; conv => whnf)
    | (refine brK_false rfl ?_; conv => whnf)
    | (refine brK_true (by assumption) ?_; conv => whnf)
    | (refine brK_false (by assumption) ?_; conv => whnf)
    | (refine brK_true ?_ ?_; (focus (simp only [List.length_nil, fx, nums_is, g1, g3, f1, f2, f3, f4, w1, w2, hsl] <;> omega)); conv => whnf)
    | (refine brK_false ?_ ?_; (focus (simp only [List.length_nil, fx, nums_is, g1, g3, f1, f2, f3, f4, w1, w2, hsl] <;> omega)); conv => whnf)
    | ((refine brK_of (fun h => ?_) (fun h => ?_)) <;> (have h2 := h; (try simp only [List.length_nil, fx, nums_is, g1, g3, f1, f2, f3, f4, w1, w2, hsl] at h2); conv => whnf))
    | (refine reqK_of ?_ ?_; (focus (first | decide | omega | assumption | (simp only [List.length_nil, fx, nums_is, g1, g3, f1, f2, f3, f4, w1, w2, hsl] <;> omega) | (simp [keyNew, sameKey, kEq] <;> omega))); conv => whnf)
    | (refine reqK_of ?_ ?_; rotate_left; (conv => whnf); rotate_left)
    | (refine nth_us ?_ ?_ ?_; (focus (first | omega | (simp only [List.length_nil, fx, nums_is, g1, g3, f1, f2, f3, f4, w1, w2, hsl] <;> omega))); (focus (first | omega | (simp only [List.length_nil, fx, nums_is, g1, g3, f1, f2, f3, f4, w1, w2, hsl] <;> omega))); conv => whnf)
    | (refine nth_is ?_ ?_ ?_; (focus (first | omega | (simp only [List.length_nil, fx, nums_is, g1, g3, f1, f2, f3, f4, w1, w2, hsl] <;> omega))); (focus (first | omega | (simp only [List.length_nil, fx, nums_is, g1, g3, f1, f2, f3, f4, w1, w2, hsl] <;> omega))); conv => whnf)
    | (refine nth_bs ?_ ?_ ?_; (focus (first | omega | (simp only [List.length_nil, fx, nums_is, g1, g3, f1, f2, f3, f4, w1, w2, hsl] <;> omega))); (focus (first | omega | (simp only [List.length_nil, fx, nums_is, g1, g3, f1, f2, f3, f4, w1, w2, hsl] <;> omega))); conv => whnf))
  all_goals (try simp only [nums_is])
  all_goals first
    | exact q1
    | exact q2
    | exact qs
    | exact ⟨qs, qa⟩
    | exact ⟨qs, qb⟩
    | exact ⟨ql1, qb⟩
    | exact ⟨ql2, qa⟩
    | exact ⟨qs, qs2⟩
    | exact qa
    | exact qb
    | (rw [is_len, is_len, is_len, w2, hsl]; exact congrArg T.bool (eq_t.2 (by omega)))
    | (simp only [nums_is] at *; simp_all; done)
    | trace_state
open Classical in
noncomputable def c5 : List T → Ans
  | [.list 1 xs, .list 1 ys, .int .i64 o] => .req (((IsI xs ∧ xs.length ≤ 1048576) ∧ (IsI ys ∧ ys.length ≤ 1048576)) ∧ I64 o) (.bool true)
  | _ => .no
theorem got5 {vs : List T} {x : T} (h : Got (c5 vs) x) : FnOk Try.prog tgl 5 vs x := by
  unfold c5 at h
  split at h
  · obtain ⟨hq, e⟩ := got_req h; rw [e]; exact ok5 _ _ _ hq
  · exact (got_no h).elim
theorem nogl5 (vs : List T) (p : Prop) (d : Decidable p) (sz : Nat) (xs : List T) (h : c5 vs = @Ans.gl p d sz xs) : False := by
  unfold c5 at h
  split at h <;> cases h
theorem pk5 (vs : List T) (p : Prop) (d : Decidable p) (x : T) (h : c5 vs = @Ans.pk p d x) (hp : p) : FnOk Try.prog tgl 5 vs x := by
  unfold c5 at h
  split at h
  · cases h
  · cases h
end Go.Nx
