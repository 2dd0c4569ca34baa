/-
  BagSame, BagAdds: walked.
-/
import Derived.Test.YtommbfigioeghaaBf
set_option linter.unusedVariables false
set_option linter.unusedSimpArgs false
set_option maxRecDepth 20000
set_option maxHeartbeats 4000000
namespace Go.Nx
open Go.RowKit Go.Proofs

noncomputable def lB9 : List (Nat × (List T → Ans)) := (18, c18) :: (24, c24) :: (26, c26) :: (30, c30) :: lB5
noncomputable def iB9 : List (Nat × Pt) := iB5
noncomputable abbrev B9 : Env := En tgl lB9 iB9
theorem env_B9 : EnvOk Try.prog B9 := (env_fn (env_fn (env_fn (env_fn env_B5 (fun _ _ => got30) (fun vs p d sz xs h _ => (nogl30 vs p d sz xs h).elim) pk30) (fun _ _ => got26) (fun vs p d sz xs h _ => (nogl26 vs p d sz xs h).elim) pk26) (fun _ _ => got24) (fun vs p d sz xs h _ => (nogl24 vs p d sz xs h).elim) pk24) (fun _ _ => got18) (fun vs p d sz xs h _ => (nogl18 vs p d sz xs h).elim) pk18)
def SzA (xs : List T) : Prop := xs.length * 8 ≤ 140737488351232
theorem szA_B {xs : List T} (h : SzA xs) : SzB xs := by unfold SzA at h; unfold SzB maxBytes; omega
theorem eqNs_iff {a b : List Int} : eqNs a b = true ↔ a = b := by simp [eqNs]
theorem eqNs_comm (a b : List Int) : eqNs a b = eqNs b a := by
  unfold eqNs
  by_cases h : a = b
  · subst h; rfl
  · rw [decide_eq_false h, decide_eq_false (fun e => h e.symm)]
theorem ok9 (xs ys zs : List T) (o : Int) (hq : ((IsI xs ∧ SzA xs) ∧ (IsI ys ∧ SzA ys) ∧ (IsI zs ∧ SzA zs)) ∧ I64 o) : FnOk Try.prog tgl 9 [.list 1 xs, .list 1 ys, .list 1 zs, .int .i64 o] (.bool true) := by
  refine fn_ok (Γ := B9) env_B9 Try.func9 low9 ?_
  obtain ⟨⟨⟨hx, sx⟩, ⟨hy, sy⟩, ⟨hz, sz⟩⟩, ho⟩ := hq
  have q1 : (IsI xs ∧ SzB xs) ∧ (IsI xs ∧ SzB xs) := ⟨⟨hx, szA_B sx⟩, hx, szA_B sx⟩
  have q2 : (IsI xs ∧ SzB xs) ∧ (IsI ys ∧ SzB ys) := ⟨⟨hx, szA_B sx⟩, hy, szA_B sy⟩
  have q3 : (IsI ys ∧ SzB ys) ∧ (IsI xs ∧ SzB xs) := ⟨⟨hy, szA_B sy⟩, hx, szA_B sx⟩
  have q4 : (IsI ys ∧ SzB ys) ∧ (IsI zs ∧ SzB zs) := ⟨⟨hy, szA_B sy⟩, hz, szA_B sz⟩
  have q5 : (IsI xs ∧ SzB xs) ∧ (IsI zs ∧ SzB zs) := ⟨⟨hx, szA_B sx⟩, hz, szA_B sz⟩
  have q6 : (IsI xs ∧ (xs.length + (minI 1 1000).toNat) * 8 ≤ maxBytes) ∧ I64 o ∧ I64 1 := by
    refine ⟨⟨hx, ?_⟩, ho, by unfold I64; omega⟩
    have : minI 1 1000 = 1 := by rw [minI_def]; rfl
    rw [this]
    unfold SzA at sx; unfold maxBytes
    show (xs.length + 1) * 8 ≤ _
    omega
  obtain ⟨l, rfl, hl⟩ := hx
  obtain ⟨r, rfl, hr⟩ := hy
  obtain ⟨t, rfl, ht⟩ := hz
  have q7 : (IsI (is l) ∧ SzB (is l)) ∧ IsI (is (addB (nums (is l)) o 1)) ∧ SzB (is (addB (nums (is l)) o 1)) := by
    rw [nums_is]
    have hadd : addB l o 1 = srt (l ++ [o]) := by unfold addB; rw [if_pos (by decide)]; rfl
    refine ⟨⟨isI_is hl, szA_B sx⟩, ?_, ?_⟩
    · rw [hadd]
      refine isI_srt fun n hn => ?_
      rcases List.mem_append.1 hn with h | h
      · exact hl n h
      · simp at h; subst h; exact ho
    · rw [hadd]
      unfold SzB maxBytes
      unfold SzA at sx
      rw [is_len] at sx ⊢
      rw [srt_len, List.length_append]
      show (l.length + 1) * 8 ≤ _
      omega
  have q8 : IsI (is l) ∧ SzB (is l) := ⟨isI_is hl, szA_B sx⟩
  have q9 : IsI (is r) ∧ SzB (is r) := ⟨isI_is hr, szA_B sy⟩
  have f1 : eqNs (srt (nums (is l))) (srt (nums (is l))) = true := eqNs_self _
  have f2 : eqB (eqNs (srt (nums (is l))) (srt (nums (is r)))) (eqNs (srt (nums (is r))) (srt (nums (is l)))) = true := by
    rw [eqNs_comm (srt (nums (is r)))]; cases eqNs (srt (nums (is l))) (srt (nums (is r))) <;> simp [eqB_def]
  have f3 : eqNs (srt (nums (is l))) (srt (nums (is r))) = true → eqNs (srt (nums (is r))) (srt (nums (is t))) = true → eqNs (srt (nums (is l))) (srt (nums (is t))) = true := fun h1 h2 => by
    rw [eqNs_iff] at *; rw [h1, h2]
  have f4 : eqNs (srt (nums (is l))) (srt (nums (is (addB (nums (is l)) o 1)))) = false := by
    rw [nums_is, nums_is]
    unfold eqNs
    rw [decide_eq_false_iff_not]
    intro e
    have h1 := congrArg List.length e
    rw [srt_len, srt_len] at h1
    have hadd : addB l o 1 = srt (l ++ [o]) := by unfold addB; rw [if_pos (by decide)]; rfl
    rw [hadd, srt_len, List.length_append] at h1
    simp at h1
  have f5 : eqNs (srt (nums (is l))) (srt (nums (is r))) = true → l.length = r.length ∧ (nums (is l)).count o = (nums (is r)).count o := fun h => by
    rw [eqNs_iff, nums_is, nums_is, srt_eq] at h
    rw [nums_is, nums_is]
    exact ⟨h.length_eq, h.count_eq o⟩
  conv => whnf
  repeat' (first
    | (refine brK_true rfl ?_; conv => whnf)
    | (refine brK_false rfl ?_; conv => whnf)
    | (refine brK_true (by assumption) ?_; conv => whnf)
    | (refine brK_false (by assumption) ?_; conv => whnf)
    | (refine brK_true ?_ ?_; (focus (simp only [List.length_nil, fx, f1, f2, f4, Bool.not_true, Bool.not_false] <;> omega)); conv => whnf)
    | (refine brK_false ?_ ?_; (focus (simp only [List.length_nil, fx, f1, f2, f4, Bool.not_true, Bool.not_false] <;> omega)); conv => whnf)
    | ((refine brK_of (fun h => ?_) (fun h => ?_)) <;> (have h2 := h; (try simp only [List.length_nil, fx, f1, f2, f4, Bool.not_true, Bool.not_false] at h2); conv => whnf))
    | (refine reqK_of ?_ ?_; (focus (first | decide | omega | assumption | (simp only [List.length_nil, fx, f1, f2, f4, Bool.not_true, Bool.not_false] <;> omega) | (simp [keyNew, sameKey, kEq] <;> omega))); conv => whnf)
    | (refine reqK_of ?_ ?_; rotate_left; (conv => whnf); rotate_left)
    | (refine nth_us ?_ ?_ ?_; (focus (first | omega | (simp only [List.length_nil, fx, f1, f2, f4, Bool.not_true, Bool.not_false] <;> omega))); (focus (first | omega | (simp only [List.length_nil, fx, f1, f2, f4, Bool.not_true, Bool.not_false] <;> omega))); conv => whnf)
    | (refine nth_is ?_ ?_ ?_; (focus (first | omega | (simp only [List.length_nil, fx, f1, f2, f4, Bool.not_true, Bool.not_false] <;> omega))); (focus (first | omega | (simp only [List.length_nil, fx, f1, f2, f4, Bool.not_true, Bool.not_false] <;> omega))); conv => whnf)
    | (refine nth_bs ?_ ?_ ?_; (focus (first | omega | (simp only [List.length_nil, fx, f1, f2, f4, Bool.not_true, Bool.not_false] <;> omega))); (focus (first | omega | (simp only [List.length_nil, fx, f1, f2, f4, Bool.not_true, Bool.not_false] <;> omega))); conv => whnf))
  all_goals first
    | exact q7
    | exact q8
    | exact q9
    | (rw [(f5 (by assumption)).2]; simp)
    | (exfalso
       have h5 := f5 (by assumption)
       first
         | omega
         | (have h6 := f3 (by assumption) (by assumption); simp_all))
    | trace_state
open Classical in
noncomputable def c9 : List T → Ans
  | [.list 1 xs, .list 1 ys, .list 1 zs, .int .i64 o] => .req (((IsI xs ∧ SzA xs) ∧ (IsI ys ∧ SzA ys) ∧ (IsI zs ∧ SzA zs)) ∧ I64 o) (.bool true)
  | _ => .no
theorem got9 {vs : List T} {x : T} (h : Got (c9 vs) x) : FnOk Try.prog tgl 9 vs x := by
  unfold c9 at h
  split at h
  · obtain ⟨hq, e⟩ := got_req h; rw [e]; exact ok9 _ _ _ _ hq
  · exact (got_no h).elim
theorem nogl9 (vs : List T) (p : Prop) (d : Decidable p) (sz : Nat) (xs : List T) (h : c9 vs = @Ans.gl p d sz xs) : False := by
  unfold c9 at h
  split at h <;> cases h
theorem pk9 (vs : List T) (p : Prop) (d : Decidable p) (x : T) (h : c9 vs = @Ans.pk p d x) (hp : p) : FnOk Try.prog tgl 9 vs x := by
  unfold c9 at h
  split at h
  · cases h
  · cases h
end Go.Nx
