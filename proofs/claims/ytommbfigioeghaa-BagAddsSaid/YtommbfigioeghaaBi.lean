/-
  BagAdds: walked.
-/
import Derived.Test.YtommbfigioeghaaBg
set_option linter.unusedVariables false
set_option linter.unusedSimpArgs false
set_option maxRecDepth 20000
set_option maxHeartbeats 4000000
namespace Go.Nx
open Go.RowKit Go.Proofs

theorem add_I {l : List Int} (hl : ∀ n ∈ l, I64 n) {o n : Int} (ho : I64 o) : ∀ x ∈ addB l o n, I64 x := by
  unfold addB
  split
  · refine srt_I fun x hx => ?_
    rcases List.mem_append.1 hx with h | h
    · exact hl x h
    · rw [List.eq_of_mem_replicate h]; exact ho
  · exact srt_I fun x hx => hl x (delN_sub _ _ _ x hx)
theorem add_len (l : List Int) (o n : Int) : (addB l o n).length = if 0 ≤ n then l.length + (min n 1000).toNat else l.length - min (-n).toNat (l.count o) := by
  unfold addB
  split
  · rw [srt_len, List.length_append, List.length_replicate]
  · rw [srt_len, delN_len]
theorem adds_facts {l : List Int} {o K NK : Int} (hl : ∀ n ∈ l, I64 n) (sx : l.length * 8 ≤ 140737488351232) (ho : I64 o) (hK : 0 ≤ K ∧ K < 20) (hNK : NK = -K) :
    ((IsI (is l) ∧ ((is l).length + (minI K 1000).toNat) * 8 ≤ maxBytes) ∧ I64 o ∧ I64 K) ∧ (IsI (is l) ∧ SzB (is l)) ∧
    ((IsI (is l) ∧ ((is l).length + (minI NK 1000).toNat) * 8 ≤ maxBytes) ∧ I64 o ∧ I64 NK) ∧ (IsI (is (addB (nums (is l)) o K)) ∧ SzB (is (addB (nums (is l)) o K))) ∧
    ((IsI (is (addB (nums (is l)) o K)) ∧ ((is (addB (nums (is l)) o K)).length + (minI NK 1000).toNat) * 8 ≤ maxBytes) ∧ I64 o ∧ I64 NK) ∧
    ((IsI (is (addB (nums (is (addB (nums (is l)) o K))) o NK)) ∧ SzB (is (addB (nums (is (addB (nums (is l)) o K))) o NK))) ∧ IsI (is l) ∧ SzB (is l)) ∧
    (IsI (is (addB (nums (is l)) o NK)) ∧ SzB (is (addB (nums (is l)) o NK))) ∧
    ((nums (is (addB (nums (is l)) o K))).count o : Int) = (l.count o : Int) + K ∧
    srt (nums (is (addB (nums (is (addB (nums (is l)) o K))) o NK))) = srt l ∧
    ((nums (is (addB (nums (is l)) o NK))).count o : Int) = max ((l.count o : Int) - K) 0 ∧
    ((is (addB (nums (is l)) o NK)).length : Int) = (l.length : Int) - min (l.count o : Int) K := by
  subst hNK
  have hcl := List.count_le_length (a := o) (l := l)
  have m1 : (minI K 1000).toNat = K.toNat := by rw [minI_def]; split <;> omega
  have m2 : (minI (-K) 1000).toNat = 0 := by rw [minI_def]; split <;> omega
  have iK : I64 K := by unfold I64; omega
  have iN : I64 (-K) := by unfold I64; omega
  simp only [nums_is, is_len, m1, m2]
  have hA := add_I hl (n := K) ho
  have hB := add_I hA (n := -K) ho
  have hC := add_I hl (n := -K) ho
  have lA := add_len l o K
  rw [if_pos hK.1] at lA
  have lB := add_len (addB l o K) o (-K)
  have lC := add_len l o (-K)
  have cA := addB_count l o K o
  rw [if_pos rfl, if_pos hK.1] at cA
  have cC := addB_count l o (-K) o
  rw [if_pos rfl] at cC
  have bA : (addB l o K).length ≤ l.length + 20 := by omega
  have bB : (addB (addB l o K) o (-K)).length ≤ l.length + 20 := by
    rw [lB]; split <;> omega
  have bC : (addB l o (-K)).length ≤ l.length + 20 := by
    rw [lC]; split <;> omega
  have z : ∀ x : List Int, x.length ≤ l.length + 20 → SzB (is x) := fun x hx => sz_B (by omega)
  refine ⟨⟨⟨isI_is hl, by unfold maxBytes; omega⟩, ho, iK⟩, ⟨isI_is hl, z _ (by omega)⟩, ⟨⟨isI_is hl, by unfold maxBytes; omega⟩, ho, iN⟩, ⟨isI_is hA, z _ bA⟩, ⟨⟨isI_is hA, by unfold maxBytes; omega⟩, ho, iN⟩, ⟨⟨isI_is hB, z _ bB⟩, isI_is hl, z _ (by omega)⟩, ⟨isI_is hC, z _ bC⟩, ?_, ?_, ?_, ?_⟩
  · rw [cA]; omega
  · rw [srt_eq, perm_count]
    intro p
    rw [addB_count (addB l o K) o (-K) p]
    by_cases hp : p = o
    · subst hp
      rw [if_pos rfl, cA]
      split <;> omega
    · rw [if_neg hp, addB_count, if_neg hp]
  · rw [cC]; split <;> omega
  · rw [lC]; split <;> omega
theorem adds_none {l : List Int} {o : Int} (hl : ∀ n ∈ l, I64 n) (sx : l.length * 8 ≤ 140737488351232) (ho : I64 o) :
    ((IsI (is l) ∧ ((is l).length + (minI (-4611686018427387904) 1000).toNat) * 8 ≤ maxBytes) ∧ I64 o ∧ I64 (-4611686018427387904)) ∧
    (IsI (is (addB (nums (is l)) o (-4611686018427387904))) ∧ SzB (is (addB (nums (is l)) o (-4611686018427387904)))) ∧ (nums (is (addB (nums (is l)) o (-4611686018427387904)))).count o = 0 := by
  have hcl := List.count_le_length (a := o) (l := l)
  have m3 : (minI (-4611686018427387904) 1000).toNat = 0 := by rw [minI_def]; split <;> omega
  have hC := add_I hl (n := -4611686018427387904) ho
  have lC := add_len l o (-4611686018427387904)
  rw [if_neg (by omega)] at lC
  have cC := addB_count l o (-4611686018427387904) o
  rw [if_pos rfl, if_neg (by omega)] at cC
  simp only [nums_is, is_len, m3]
  refine ⟨⟨⟨isI_is hl, by unfold maxBytes; omega⟩, ho, by unfold I64; omega⟩, ⟨isI_is hC, sz_B (by omega)⟩, ?_⟩
  rw [cC]; omega
theorem ok8 (xs : List T) (o n : Int) (hq : ((IsI xs ∧ SzA xs) ∧ I64 o) ∧ R8 n) : FnOk Try.prog tgl 8 [.list 1 xs, .int .i64 o, .int .u8 n] (.bool true) := by
  refine fn_ok (Γ := B9) env_B9 Try.func8 low8 ?_
  obtain ⟨⟨⟨⟨l, rfl, hl⟩, sx⟩, ho⟩, hn⟩ := hq
  unfold SzA at sx
  rw [is_len] at sx
  unfold R8 at hn
  have hcl := List.count_le_length (a := o) (l := l)
  have hkk : IntKind.i64.wrap (n.tmod 20) = n % 20 := by rw [Int.tmod_eq_emod_of_nonneg hn.1]; exact wrap_i64 ⟨by omega, by omega⟩
  have hk0 : 0 ≤ IntKind.i64.wrap (n.tmod 20) ∧ IntKind.i64.wrap (n.tmod 20) < 20 := by rw [hkk]; omega
  have hnk : IntKind.i64.wrap (0 - IntKind.i64.wrap (n.tmod 20)) = -(IntKind.i64.wrap (n.tmod 20)) := by
    rw [Int.zero_sub]; exact wrap_i64 ⟨by omega, by omega⟩
  obtain ⟨r1, r2, r3, r4, r5, r6, r7, e1, e2, e3, e4⟩ := adds_facts hl sx ho hk0 hnk
  obtain ⟨r8, r9, e5⟩ := adds_none hl sx ho
  have w1 : IntKind.i64.wrap (((nums (is l)).count o : Nat) + IntKind.i64.wrap (n.tmod 20) : Int) = (l.count o : Int) + IntKind.i64.wrap (n.tmod 20) := by rw [nums_is]; exact wrap_i64 ⟨by omega, by omega⟩
  have w2 : IntKind.i64.wrap (((nums (is l)).count o : Nat) - IntKind.i64.wrap (n.tmod 20) : Int) = (l.count o : Int) - IntKind.i64.wrap (n.tmod 20) := by rw [nums_is]; exact wrap_i64 ⟨by omega, by omega⟩
  have mx : ∀ a : Int, maxI a 0 = max a 0 := fun a => by rw [maxI_def]; split <;> omega
  have mn : ∀ a b : Int, minI a b = min a b := fun a b => by rw [minI_def]; split <;> omega
  have w3 : IntKind.i64.wrap (((is l).length : Nat) - minI (((nums (is l)).count o : Nat) : Int) (IntKind.i64.wrap (n.tmod 20)) : Int) = (l.length : Int) - min (l.count o : Int) (IntKind.i64.wrap (n.tmod 20)) := by
    rw [nums_is, is_len, mn]; exact wrap_i64 ⟨by omega, by omega⟩
  have f1 : eqI (((nums (is (addB (nums (is l)) o (IntKind.i64.wrap (n.tmod 20))))).count o : Nat) : Int) (IntKind.i64.wrap (((nums (is l)).count o : Nat) + IntKind.i64.wrap (n.tmod 20) : Int)) = true := by rw [w1, e1]; simp
  have f2 : eqNs (srt (nums (is (addB (nums (is (addB (nums (is l)) o (IntKind.i64.wrap (n.tmod 20))))) o (IntKind.i64.wrap (0 - IntKind.i64.wrap (n.tmod 20))))))) (srt (nums (is l))) = true := by rw [e2, nums_is]; exact eqNs_self _
  have f3 : eqI (((nums (is (addB (nums (is l)) o (IntKind.i64.wrap (0 - IntKind.i64.wrap (n.tmod 20)))))).count o : Nat) : Int) (maxI (IntKind.i64.wrap (((nums (is l)).count o : Nat) - IntKind.i64.wrap (n.tmod 20) : Int)) 0) = true := by rw [w2, mx, e3]; simp
  have f4 : eqI (((is (addB (nums (is l)) o (IntKind.i64.wrap (0 - IntKind.i64.wrap (n.tmod 20))))).length : Nat) : Int) (IntKind.i64.wrap (((is l).length : Nat) - minI (((nums (is l)).count o : Nat) : Int) (IntKind.i64.wrap (n.tmod 20)) : Int)) = true := by rw [w3, e4]; simp
  conv => whnf
  repeat' (first
    | (refine brK_true (by assumption) ?_; conv => whnf)
    | (refine brK_false (by assumption) ?_; conv => whnf)
    | (refine brK_true ?_ ?_; (focus (simp only [List.length_nil, not_t, not_f, lt_t, lt_f, le_t, le_f, eq_t, eq_f, us_len, is_len, bs_len, lenL_00] <;> omega)); conv => whnf)
    | (refine brK_false ?_ ?_; (focus (simp only [List.length_nil, not_t, not_f, lt_t, lt_f, le_t, le_f, eq_t, eq_f, us_len, is_len, bs_len, lenL_00] <;> omega)); conv => whnf)
    | ((refine brK_of (fun h => ?_) (fun h => ?_)) <;> (have h2 := h; (try simp only [List.length_nil, not_t, not_f, lt_t, lt_f, le_t, le_f, eq_t, eq_f, us_len, is_len, bs_len, lenL_00] at h2); conv => whnf))
    | (refine reqK_of ?_ ?_; (focus (first | decide | omega | assumption | (simp only [List.length_nil, not_t, not_f, lt_t, lt_f, le_t, le_f, eq_t, eq_f, us_len, is_len, bs_len, lenL_00] <;> omega) | (simp [keyNew, sameKey, kEq] <;> omega))); conv => whnf)
    | (refine reqK_of ?_ ?_; rotate_left; (conv => whnf); rotate_left)
    | (refine nth_us ?_ ?_ ?_; (focus (first | omega | (simp only [List.length_nil, not_t, not_f, lt_t, lt_f, le_t, le_f, eq_t, eq_f, us_len, is_len, bs_len, lenL_00] <;> omega))); (focus (first | omega | (simp only [List.length_nil, not_t, not_f, lt_t, lt_f, le_t, le_f, eq_t, eq_f, us_len, is_len, bs_len, lenL_00] <;> omega))); conv => whnf)
    | (refine nth_is ?_ ?_ ?_; (focus (first | omega | (simp only [List.length_nil, not_t, not_f, lt_t, lt_f, le_t, le_f, eq_t, eq_f, us_len, is_len, bs_len, lenL_00] <;> omega))); (focus (first | omega | (simp only [List.length_nil, not_t, not_f, lt_t, lt_f, le_t, le_f, eq_t, eq_f, us_len, is_len, bs_len, lenL_00] <;> omega))); conv => whnf)
    | (refine nth_bs ?_ ?_ ?_; (focus (first | omega | (simp only [List.length_nil, not_t, not_f, lt_t, lt_f, le_t, le_f, eq_t, eq_f, us_len, is_len, bs_len, lenL_00] <;> omega))); (focus (first | omega | (simp only [List.length_nil, not_t, not_f, lt_t, lt_f, le_t, le_f, eq_t, eq_f, us_len, is_len, bs_len, lenL_00] <;> omega))); conv => whnf))
  all_goals first
    | assumption
    | (rw [e5]; simp)
    | trace_state
open Classical in
noncomputable def c8 : List T → Ans
  | [.list 1 xs, .int .i64 o, .int .u8 n] => .req (((IsI xs ∧ SzA xs) ∧ I64 o) ∧ R8 n) (.bool true)
  | _ => .no
theorem got8 {vs : List T} {x : T} (h : Got (c8 vs) x) : FnOk Try.prog tgl 8 vs x := by
  unfold c8 at h
  split at h
  · obtain ⟨hq, e⟩ := got_req h; rw [e]; exact ok8 _ _ _ hq
  · exact (got_no h).elim
theorem nogl8 (vs : List T) (p : Prop) (d : Decidable p) (sz : Nat) (xs : List T) (h : c8 vs = @Ans.gl p d sz xs) : False := by
  unfold c8 at h
  split at h <;> cases h
theorem pk8 (vs : List T) (p : Prop) (d : Decidable p) (x : T) (h : c8 vs = @Ans.pk p d x) (hp : p) : FnOk Try.prog tgl 8 vs x := by
  unfold c8 at h
  split at h
  · cases h
  · cases h
end Go.Nx
