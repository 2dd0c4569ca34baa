/-
  BAGS: ADD.
-/
import Derived.Test.YtommbfigioeghaaBd
set_option linter.unusedVariables false
set_option linter.unusedSimpArgs false
set_option maxRecDepth 20000
set_option maxHeartbeats 4000000
namespace Go.Nx
open Go.RowKit Go.Proofs

/-- what is kept of a front, how many are still to be taken out -/
def stD (l : List Int) (o : Int) (m : Nat) : Nat → List Int × Nat
  | 0 => ([], m)
  | k + 1 => if at0 l k = o ∧ 0 < (stD l o m k).2 then ((stD l o m k).1, (stD l o m k).2 - 1) else ((stD l o m k).1 ++ [at0 l k], (stD l o m k).2)
theorem stD_del (l : List Int) (o : Int) (m : Nat) : ∀ k, k ≤ l.length → (stD l o m k).1 ++ delN o (stD l o m k).2 (l.drop k) = delN o m l
  | 0, _ => by simp [stD]
  | k + 1, h => by
    have ih := stD_del l o m k (by omega)
    have e : l.drop k = at0 l k :: l.drop (k + 1) := by
      rw [List.drop_eq_getElem_cons (by omega)]; simp [at0, show k < l.length by omega]
    rw [e] at ih
    rw [← ih, stD]
    generalize (stD l o m k).2 = r
    cases r with
    | zero => simp [delN, delN_zero]
    | succ r =>
      by_cases hx : at0 l k = o
      · rw [if_pos ⟨hx, by omega⟩]; simp [delN, hx]
      · rw [if_neg (by simp [hx])]; simp [delN, hx]
theorem stD_end (l : List Int) (o : Int) (m : Nat) : (stD l o m l.length).1 = delN o m l := by
  have := stD_del l o m l.length (Nat.le_refl _)
  rw [List.drop_length] at this
  have e : ∀ r, delN o r ([] : List Int) = [] := fun r => by cases r <;> rfl
  rw [e, List.append_nil] at this
  exact this
theorem stD_len (l : List Int) (o : Int) (m : Nat) : ∀ k, (stD l o m k).1.length + m = k + (stD l o m k).2 ∧ (stD l o m k).2 ≤ m
  | 0 => by simp [stD]
  | k + 1 => by
    have ih := stD_len l o m k
    rw [stD]
    split
    · simp only; omega
    · simp only [List.length_append, List.length_cons, List.length_nil]; omega
theorem stD_no (l : List Int) (o : Int) (m : Nat) : ∀ k, k ≤ l.length → (∀ j, j < k → at0 l j ≠ o) → stD l o m k = (l.take k, m)
  | 0, _, _ => by simp [stD]
  | k + 1, h, hn => by
    rw [stD, stD_no l o m k (by omega) fun j hj => hn j (by omega), if_neg (by simp [hn k (by omega)]), List.take_add_one]
    simp [at0, show k < l.length by omega]
noncomputable def lB6 : List (Nat × (List T → Ans)) := (56, c56) :: (30, c30) :: lB5
noncomputable def iB6 : List (Nat × Pt) := (55, inl B0 m55) :: (57, inl B0 m57) :: iB5
noncomputable abbrev B6 : Env := En tgl lB6 iB6
theorem env_B6 : EnvOk Try.prog B6 := (env_fn (env_fn (env_in (env_in env_B5 env_B0 Try.func57 low57) env_B0 Try.func55 low55) (fun _ _ => got30) (fun vs p d sz xs h _ => (nogl30 vs p d sz xs h).elim) pk30) (fun _ _ => got56) (fun vs p d sz xs h _ => (nogl56 vs p d sz xs h).elim) pk56)
/-- the first that is wanted, as the closure of Add tells -/
def idxOwn (l : List Int) (o n : Int) : Own := [(85063, .lst 1 (is l) 0), (69, .cells [.t (.int .i64 n)]), (68, .cells [.t (.int .i64 o)])]
def idxSpec (l : List Int) (o n z : Int) (own' : Own) : Prop :=
  (∃ k : Nat, k < l.length ∧ z = (k : Int) ∧ at0 l k = o ∧ (∀ j : Nat, j < k → at0 l j ≠ o) ∧ own' = idxOwn l o (n + 1)) ∨ (z = -1 ∧ (∀ j : Nat, j < l.length → at0 l j ≠ o) ∧ own' = idxOwn l o n)
theorem inl_idx {base : Nat} {l : List Int} {o n : Int} (hlen : l.length ≤ 17592186044416) (hn : n < 0 ∧ I64 n) {R : V → Own → Prop} (hR : ∀ z own', idxSpec l o n z own' → R (.t (.int .i64 z)) own') :
    inl B6 m77 base [.sl 85063 0 none, .fn (.func 57) [] [.ptr 68 0, .ptr 69 0]] (idxOwn l o n) R := by
  obtain ⟨hn0, hn64⟩ := hn
  unfold I64 at hn64
  unfold inl idxOwn
  conv => whnf
  repeat' (first
    | (refine brK_true rfl ?_; conv => whnf)
    | (refine brK_false rfl ?_; conv => whnf)
    | (refine brK_true (by assumption) ?_; conv => whnf)
    | (refine brK_false (by assumption) ?_; conv => whnf)
    | (refine brK_true ?_ ?_; (focus (simp only [List.length_nil, fx] <;> omega)); conv => whnf)
    | (refine brK_false ?_ ?_; (focus (simp only [List.length_nil, fx] <;> omega)); conv => whnf)
    | ((refine brK_of (fun h => ?_) (fun h => ?_)) <;> (have h2 := h; (try simp only [List.length_nil, fx] at h2); conv => whnf))
    | (refine reqK_of ?_ ?_; (focus (first | decide | omega | assumption | (simp only [List.length_nil, fx] <;> omega) | (simp [keyNew, sameKey, kEq] <;> omega))); conv => whnf)
    | (refine reqK_of ?_ ?_; rotate_left; (conv => whnf); rotate_left)
    | (refine nth_us ?_ ?_ ?_; (focus (first | omega | (simp only [List.length_nil, fx] <;> omega))); (focus (first | omega | (simp only [List.length_nil, fx] <;> omega))); conv => whnf)
    | (refine nth_is ?_ ?_ ?_; (focus (first | omega | (simp only [List.length_nil, fx] <;> omega))); (focus (first | omega | (simp only [List.length_nil, fx] <;> omega))); conv => whnf)
    | (refine nth_bs ?_ ?_ ?_; (focus (first | omega | (simp only [List.length_nil, fx] <;> omega))); (focus (first | omega | (simp only [List.length_nil, fx] <;> omega))); conv => whnf))
  refine loopFn [] (fun s => [.kill 5, .kill 9, .kill 10, .kill 11, .kill 12, .kill 13, .kill 14, .kill 15, .kill 16, .kill 17, .kill 18]) (fun k : Nat => [(8, .t (.int .i64 (k : Int)))]) (fun _ => idxOwn l o n) (fun k => k ≤ l.length ∧ ∀ j : Nat, j < k → at0 l j ≠ o) (fun k => l.length - k) 0 ⟨Nat.zero_le _, fun j h => by omega⟩ ?_
  conv => whnf
  refine ⟨⟨rfl, rfl⟩, fun k hk C hC => ?_⟩
  obtain ⟨hk1, hk2⟩ := hk
  have hkn : Nat.add 0 (k : Int).toNat = k := by simp
  have hw : IntKind.i64.wrap ((k : Int) + 1) = (k : Int) + 1 := wrap_i64 ⟨by omega, by omega⟩
  have hwn : IntKind.i64.wrap (n + 1) = n + 1 := wrap_i64 ⟨by omega, by omega⟩
  conv => whnf
  repeat' (first
    | (refine brK_true rfl ?_; conv => whnf)
    | (refine brK_false rfl ?_; conv => whnf)
    | (refine brK_true (by assumption) ?_; conv => whnf)
    | (refine brK_false (by assumption) ?_; conv => whnf)
    | (refine brK_true ?_ ?_; (focus (simp only [List.length_nil, fx, hkn] <;> omega)); conv => whnf)
    | (refine brK_false ?_ ?_; (focus (simp only [List.length_nil, fx, hkn] <;> omega)); conv => whnf)
    | ((refine brK_of (fun h => ?_) (fun h => ?_)) <;> (have h2 := h; (try simp only [List.length_nil, fx, hkn] at h2); conv => whnf))
    | (refine reqK_of ?_ ?_; (focus (first | decide | omega | assumption | (simp only [List.length_nil, fx, hkn] <;> omega) | (simp [keyNew, sameKey, kEq] <;> omega))); conv => whnf)
    | (refine reqK_of ?_ ?_; rotate_left; (conv => whnf); rotate_left)
    | (refine nth_us ?_ ?_ ?_; (focus (first | omega | (simp only [List.length_nil, fx, hkn] <;> omega))); (focus (first | omega | (simp only [List.length_nil, fx, hkn] <;> omega))); conv => whnf)
    | (refine nth_is ?_ ?_ ?_; (focus (first | omega | (simp only [List.length_nil, fx, hkn] <;> omega))); (focus (first | omega | (simp only [List.length_nil, fx, hkn] <;> omega))); conv => whnf)
    | (refine nth_bs ?_ ?_ ?_; (focus (first | omega | (simp only [List.length_nil, fx, hkn] <;> omega))); (focus (first | omega | (simp only [List.length_nil, fx, hkn] <;> omega))); conv => whnf))
  · refine loopC (hC (k + 1) ⟨by omega, fun j hj => ?_⟩ (by omega)) ?_
    · rcases Nat.lt_succ_iff_lt_or_eq.1 hj with h | h
      · exact hk2 j h
      · subst h; assumption
    · rw [hw, Int.natCast_succ]; rfl
  · rw [hwn]
    exact hR _ _ (.inl ⟨k, by omega, rfl, by assumption, hk2, rfl⟩)
  · exact hR _ _ (.inr ⟨rfl, fun j hj => hk2 j (by omega), rfl⟩)
theorem inl_idx_nil {base : Nat} {o n : Int} {R : V → Own → Prop} (hR : ∀ z, z = -1 → R (.t (.int .i64 z)) [(69, .cells [.t (.int .i64 n)]), (68, .cells [.t (.int .i64 o)])]) :
    inl B6 m77 base [.t .nils, .fn (.func 57) [] [.ptr 68 0, .ptr 69 0]] [(69, .cells [.t (.int .i64 n)]), (68, .cells [.t (.int .i64 o)])] R := by
  unfold inl
  conv => whnf
  repeat' (first
    | (refine brK_true rfl ?_; conv => whnf)
    | (refine brK_false rfl ?_; conv => whnf)
    | (refine brK_true (by assumption) ?_; conv => whnf)
    | (refine brK_false (by assumption) ?_; conv => whnf)
    | (refine brK_true ?_ ?_; (focus (simp only [List.length_nil, fx] <;> omega)); conv => whnf)
    | (refine brK_false ?_ ?_; (focus (simp only [List.length_nil, fx] <;> omega)); conv => whnf)
    | ((refine brK_of (fun h => ?_) (fun h => ?_)) <;> (have h2 := h; (try simp only [List.length_nil, fx] at h2); conv => whnf))
    | (refine reqK_of ?_ ?_; (focus (first | decide | omega | assumption | (simp only [List.length_nil, fx] <;> omega) | (simp [keyNew, sameKey, kEq] <;> omega))); conv => whnf)
    | (refine reqK_of ?_ ?_; rotate_left; (conv => whnf); rotate_left)
    | (refine nth_us ?_ ?_ ?_; (focus (first | omega | (simp only [List.length_nil, fx] <;> omega))); (focus (first | omega | (simp only [List.length_nil, fx] <;> omega))); conv => whnf)
    | (refine nth_is ?_ ?_ ?_; (focus (first | omega | (simp only [List.length_nil, fx] <;> omega))); (focus (first | omega | (simp only [List.length_nil, fx] <;> omega))); conv => whnf)
    | (refine nth_bs ?_ ?_ ?_; (focus (first | omega | (simp only [List.length_nil, fx] <;> omega))); (focus (first | omega | (simp only [List.length_nil, fx] <;> omega))); conv => whnf))
  refine loopFn [] (fun s => [.kill 5, .kill 9, .kill 10, .kill 11, .kill 12, .kill 13, .kill 14, .kill 15, .kill 16, .kill 17, .kill 18]) (fun k : Int => [(8, .t (.int .i64 k))]) (fun _ => [(69, .cells [.t (.int .i64 n)]), (68, .cells [.t (.int .i64 o)])]) (fun k => k = 0) (fun k => 0) 0 rfl ?_
  conv => whnf
  refine ⟨⟨rfl, rfl⟩, fun k hk C hC => ?_⟩
  conv => whnf
  repeat' (first
    | (refine brK_true rfl ?_; conv => whnf)
    | (refine brK_false rfl ?_; conv => whnf)
    | (refine brK_true (by assumption) ?_; conv => whnf)
    | (refine brK_false (by assumption) ?_; conv => whnf)
    | (refine brK_true ?_ ?_; (focus (simp only [List.length_nil, fx] <;> omega)); conv => whnf)
    | (refine brK_false ?_ ?_; (focus (simp only [List.length_nil, fx] <;> omega)); conv => whnf)
    | ((refine brK_of (fun h => ?_) (fun h => ?_)) <;> (have h2 := h; (try simp only [List.length_nil, fx] at h2); conv => whnf))
    | (refine reqK_of ?_ ?_; (focus (first | decide | omega | assumption | (simp only [List.length_nil, fx] <;> omega) | (simp [keyNew, sameKey, kEq] <;> omega))); conv => whnf)
    | (refine reqK_of ?_ ?_; rotate_left; (conv => whnf); rotate_left)
    | (refine nth_us ?_ ?_ ?_; (focus (first | omega | (simp only [List.length_nil, fx] <;> omega))); (focus (first | omega | (simp only [List.length_nil, fx] <;> omega))); conv => whnf)
    | (refine nth_is ?_ ?_ ?_; (focus (first | omega | (simp only [List.length_nil, fx] <;> omega))); (focus (first | omega | (simp only [List.length_nil, fx] <;> omega))); conv => whnf)
    | (refine nth_bs ?_ ?_ ?_; (focus (first | omega | (simp only [List.length_nil, fx] <;> omega))); (focus (first | omega | (simp only [List.length_nil, fx] <;> omega))); conv => whnf))
  exact hR _ rfl
def ptIdx : Pt := fun _ args own R => (∃ o n, args = [.t .nils, .fn (.func 57) [] [.ptr 68 0, .ptr 69 0]] ∧ own = [(69, .cells [.t (.int .i64 n)]), (68, .cells [.t (.int .i64 o)])] ∧ ∀ z, z = -1 → R (.t (.int .i64 z)) own) ∨ ∃ l o n, args = [.sl 85063 0 none, .fn (.func 57) [] [.ptr 68 0, .ptr 69 0]] ∧ own = idxOwn l o n ∧ l.length ≤ 17592186044416 ∧ (n < 0 ∧ I64 n) ∧ ∀ z own', idxSpec l o n z own' → R (.t (.int .i64 z)) own'
theorem ptIdx_ok (base : Nat) (args : List V) (own : Own) (R : V → Own → Prop) (h : ptIdx base args own R) : FnV Try.prog tgl 77 args own R := by
  rcases h with ⟨o, n, rfl, rfl, h⟩ | ⟨l, o, n, rfl, rfl, h1, h2, h3⟩
  · exact inl_ok (base := base) env_B6 Try.func77 low77 (inl_idx_nil h)
  exact inl_ok (base := base) env_B6 Try.func77 low77 (inl_idx h1 h2 h3)
noncomputable def lB7 : List (Nat × (List T → Ans)) := lB6
noncomputable def iB7 : List (Nat × Pt) := (77, ptIdx) :: iB6
noncomputable abbrev B7 : Env := En tgl lB7 iB7
theorem env_B7 : EnvOk Try.prog B7 := env_ptB env_B6 ptIdx_ok
theorem delN_no (o : Int) : ∀ (m : Nat) (l : List Int), o ∉ l → delN o m l = l
  | m, [], _ => by cases m <;> rfl
  | 0, x :: l, _ => rfl
  | m + 1, x :: l, h => by
    have hx : x ≠ o := fun e => h (by simp [e])
    rw [delN, if_neg hx, delN_no o (m + 1) l fun hm => h (by simp [hm])]
theorem set_mid (K : List Int) (l : List Int) (v : Int) (h : K.length < l.length) : (is (K ++ l.drop K.length)).set K.length (T.int .i64 v) = is ((K ++ [v]) ++ l.drop (K ++ [v]).length) := by
  have e : l.drop K.length = l[K.length] :: l.drop (K.length + 1) := List.drop_eq_getElem_cons h
  rw [e]
  unfold is
  rw [List.map_append, List.set_append_right _ _ (by simp)]
  have e1 : (K ++ [v]).length = K.length + 1 := by simp
  rw [e1, List.length_map, Nat.sub_self, List.map_cons, List.set_cons_zero]
  simp
theorem at0_mid (K : List Int) (l : List Int) (j : Nat) (h : K.length ≤ j) : at0 (K ++ l.drop K.length) j = at0 l j := by
  simp only [at0, Int.toNat_natCast]
  rw [List.getElem?_append_right h, List.getElem?_drop]
  congr 2; omega
theorem putL_mid (K : List Int) (l : List Int) (h : K.length ≤ l.length) : putL (is (K ++ l.drop K.length)) K.length (List.replicate (l.length - K.length) (T.int .i64 0)) = is (K ++ List.replicate (l.length - K.length) 0) := by
  have hd : List.drop (K.length + (l.length - K.length)) (is (K ++ l.drop K.length)) = [] := List.drop_of_length_le (by rw [is_len, List.length_append, List.length_drop]; omega)
  unfold putL
  rw [List.length_replicate, hd]
  unfold is
  rw [← List.map_take, List.take_append_of_le_length (by omega), List.take_length]
  simp
theorem inl_del {l : List Int} {o n : Int} (hlen : l.length ≤ 17592186044416) (hn : n < 0 ∧ I64 n) {R : V → Own → Prop}
    (hR0 : o ∉ l → R (.sl 85063 0 none) (idxOwn l o n)) (hR : ∀ (ts : List Int) (z : Int) (k : Nat) (r : Int), z = (k : Int) → k ≤ ts.length → ts.take k = delN o (-n).toNat l → R (.sl 85063 0 (some z.toNat)) (idxOwn ts o r)) :
    inl B7 m49 87040 [.sl 85063 0 none, .fn (.func 57) [] [.ptr 68 0, .ptr 69 0]] (idxOwn l o n) R := by
  unfold inl
  conv => whnf
  repeat' (first
    | (refine brK_true rfl ?_; conv => whnf)
    | (refine brK_false rfl ?_; conv => whnf)
    | (refine brK_true (by assumption) ?_; conv => whnf)
    | (refine brK_false (by assumption) ?_; conv => whnf)
    | (refine brK_true ?_ ?_; (focus (simp only [List.length_nil, fx] <;> omega)); conv => whnf)
    | (refine brK_false ?_ ?_; (focus (simp only [List.length_nil, fx] <;> omega)); conv => whnf)
    | ((refine brK_of (fun h => ?_) (fun h => ?_)) <;> (have h2 := h; (try simp only [List.length_nil, fx] at h2); conv => whnf))
    | (refine reqK_of ?_ ?_; (focus (first | decide | omega | assumption | (simp only [List.length_nil, fx] <;> omega) | (simp [keyNew, sameKey, kEq] <;> omega))); conv => whnf)
    | (refine reqK_of ?_ ?_; rotate_left; (conv => whnf); rotate_left)
    | (refine nth_us ?_ ?_ ?_; (focus (first | omega | (simp only [List.length_nil, fx] <;> omega))); (focus (first | omega | (simp only [List.length_nil, fx] <;> omega))); conv => whnf)
    | (refine nth_is ?_ ?_ ?_; (focus (first | omega | (simp only [List.length_nil, fx] <;> omega))); (focus (first | omega | (simp only [List.length_nil, fx] <;> omega))); conv => whnf)
    | (refine nth_bs ?_ ?_ ?_; (focus (first | omega | (simp only [List.length_nil, fx] <;> omega))); (focus (first | omega | (simp only [List.length_nil, fx] <;> omega))); conv => whnf))
  refine .inr ⟨l, o, n, rfl, rfl, hlen, hn, fun z own' hz => ?_⟩
  rcases hz with ⟨k, hk, hz, hko, hkn, rfl⟩ | ⟨hz, hno, rfl⟩
  · have hst : stD l o (-n).toNat (k + 1) = (l.take k, (-n).toNat - 1) := by
      rw [stD, stD_no l o _ k (by omega) hkn, if_pos ⟨hko, by have := hn.1; simp only; omega⟩]
    have htk : (l.take k).length = k := by rw [List.length_take]; omega
    have hn1 : n + 1 = -(((-n).toNat - 1 : Nat) : Int) := by have := hn.1; omega
    have hwz : IntKind.i64.wrap (z + 1) = ((k + 1 : Nat) : Int) := by rw [hz, Int.natCast_succ]; exact wrap_i64 ⟨by omega, by omega⟩
    have hdr : l.take k ++ l.drop k = l := List.take_append_drop k l
    conv => whnf
    repeat' (first
      | (refine brK_true rfl ?_; conv => whnf)
      | (refine brK_false rfl ?_; conv => whnf)
      | (refine brK_true (by assumption) ?_; conv => whnf)
      | (refine brK_false (by assumption) ?_; conv => whnf)
      | (refine brK_true ?_ ?_; (focus (simp only [List.length_nil, fx] <;> omega)); conv => whnf)
      | (refine brK_false ?_ ?_; (focus (simp only [List.length_nil, fx] <;> omega)); conv => whnf)
      | ((refine brK_of (fun h => ?_) (fun h => ?_)) <;> (have h2 := h; (try simp only [List.length_nil, fx] at h2); conv => whnf))
      | (refine reqK_of ?_ ?_; (focus (first | decide | omega | assumption | (simp only [List.length_nil, fx] <;> omega) | (simp [keyNew, sameKey, kEq] <;> omega))); conv => whnf)
      | (refine reqK_of ?_ ?_; rotate_left; (conv => whnf); rotate_left)
      | (refine nth_us ?_ ?_ ?_; (focus (first | omega | (simp only [List.length_nil, fx] <;> omega))); (focus (first | omega | (simp only [List.length_nil, fx] <;> omega))); conv => whnf)
      | (refine nth_is ?_ ?_ ?_; (focus (first | omega | (simp only [List.length_nil, fx] <;> omega))); (focus (first | omega | (simp only [List.length_nil, fx] <;> omega))); conv => whnf)
      | (refine nth_bs ?_ ?_ ?_; (focus (first | omega | (simp only [List.length_nil, fx] <;> omega))); (focus (first | omega | (simp only [List.length_nil, fx] <;> omega))); conv => whnf))
    refine loopFn [] (fun s => [.kill 7, .kill 16, .kill 17, .kill 18, .kill 19, .kill 20, .kill 21, .kill 22, .kill 23, .kill 24, .kill 25, .kill 26, .kill 27, .kill 28, .kill 29, .kill 30, .kill 31, .kill 32, .kill 33, .kill 34, .kill 35]) (fun j : Nat => [(5, .t (.int .i64 (((stD l o (-n).toNat j).1.length : Nat) : Int))), (6, .t (.int .i64 (j : Int)))]) (fun j => idxOwn ((stD l o (-n).toNat j).1 ++ l.drop (stD l o (-n).toNat j).1.length) o (-(((stD l o (-n).toNat j).2 : Nat) : Int))) (fun j => k + 1 ≤ j ∧ j ≤ l.length) (fun j => l.length - j) (k + 1) ⟨Nat.le_refl _, hk⟩ ?_
    conv => whnf
    refine ⟨⟨?_, ?_⟩, fun j hj C hC => ?_⟩
    · rw [hst, htk, ← hwz, ← hz]; rfl
    · rw [hst, htk, hdr, ← hn1]
    obtain ⟨hj1, hj2⟩ := hj
    obtain ⟨hl1, hl2⟩ := stD_len l o (-n).toNat j
    have hwj : IntKind.i64.wrap ((j : Int) + 1) = (j : Int) + 1 := wrap_i64 ⟨by omega, by omega⟩
    have hnx : ∀ x y : List Int × Nat, stD l o (-n).toNat j = x → (if at0 l j = o ∧ 0 < x.2 then (x.1, x.2 - 1) else (x.1 ++ [at0 l j], x.2)) = y → stD l o (-n).toNat (j + 1) = y := fun x y h1 h2 => by rw [stD, h1]; exact h2
    have hC1 := hC (j + 1)
    clear hC
    generalize hKm : stD l o (-n).toNat j = Km at hl1 hl2 hnx ⊢
    obtain ⟨K, m⟩ := Km
    simp only at hl1 hl2
    have hjn : ((Nat.add 0 (j : Int).toNat : Nat) : Int) = (j : Int) := by simp
    have hKn : Nat.add 0 ((K.length : Nat) : Int).toNat = K.length := by simp
    have hwK : IntKind.i64.wrap (((K.length : Nat) : Int) + 1) = ((K.length : Nat) : Int) + 1 := wrap_i64 ⟨by omega, by omega⟩
    have hwm : IntKind.i64.wrap (-((m : Nat) : Int) + 1) = -((m : Nat) : Int) + 1 := by have := hn.2; unfold I64 at this; exact wrap_i64 ⟨by omega, by omega⟩
    have hlen2 : (K ++ l.drop K.length).length = l.length := by simp; omega
    have hat : at0 (K ++ l.drop K.length) j = at0 l j := at0_mid K l j (by omega)
    have hset : K.length < l.length → (is (K ++ l.drop K.length)).set (Nat.add 0 ((K.length : Nat) : Int).toNat) (T.int .i64 (at0 (K ++ l.drop K.length) ((Nat.add 0 (j : Int).toNat : Nat) : Int))) = is ((K ++ [at0 l j]) ++ l.drop (K ++ [at0 l j]).length) := fun h => by
      rw [hKn, hjn, hat]; exact set_mid K l _ h
    have hlenL : lenL (is (K ++ l.drop K.length)) (Nat.add 0 ((K.length : Nat) : Int).toNat) none = ((l.length - K.length : Nat) : Int) := by
      rw [hKn, lenL_eq]; simp only; rw [is_len, hlen2]; omega
    have hput : putL (is (K ++ l.drop K.length)) (Nat.add 0 ((K.length : Nat) : Int).toNat) (List.replicate (lenL (is (K ++ l.drop K.length)) (Nat.add 0 ((K.length : Nat) : Int).toNat) none).toNat (T.int .i64 0)) = is (K ++ List.replicate (l.length - K.length) 0) := by
      rw [hlenL, hKn, Int.toNat_natCast]; exact putL_mid K l (by omega)
    have hK1 : (at0 l j ≠ o ∨ m = 0) → stD l o (-n).toNat (j + 1) = (K ++ [at0 l j], m) := fun h => hnx (K, m) _ rfl (if_neg (by simp only; omega))
    have hlK : ((K ++ [at0 l j]).length : Int) = IntKind.i64.wrap (((K.length : Nat) : Int) + 1) := by rw [hwK]; simp
    have hlj : ((j + 1 : Nat) : Int) = IntKind.i64.wrap ((j : Int) + 1) := by rw [hwj]; simp
    conv => whnf
    repeat' (first
      | (refine brK_true rfl ?_; conv => whnf)
      | (refine brK_false rfl ?_; conv => whnf)
      | (refine brK_true (by assumption) ?_; conv => whnf)
      | (refine brK_false (by assumption) ?_; conv => whnf)
      | (refine brK_true ?_ ?_; (focus (simp only [List.length_nil, fx, hjn, hlen2, hat, hKn] <;> omega)); conv => whnf)
      | (refine brK_false ?_ ?_; (focus (simp only [List.length_nil, fx, hjn, hlen2, hat, hKn] <;> omega)); conv => whnf)
      | ((refine brK_of (fun h => ?_) (fun h => ?_)) <;> (have h2 := h; (try simp only [List.length_nil, fx, hjn, hlen2, hat, hKn] at h2); conv => whnf))
      | (refine reqK_of ?_ ?_; (focus (first | decide | omega | assumption | (simp only [List.length_nil, fx, hjn, hlen2, hat, hKn] <;> omega) | (simp [keyNew, sameKey, kEq] <;> omega))); conv => whnf)
      | (refine reqK_of ?_ ?_; rotate_left; (conv => whnf); rotate_left)
      | (refine nth_us ?_ ?_ ?_; (focus (first | omega | (simp only [List.length_nil, fx, hjn, hlen2, hat, hKn] <;> omega))); (focus (first | omega | (simp only [List.length_nil, fx, hjn, hlen2, hat, hKn] <;> omega))); conv => whnf)
      | (refine nth_is ?_ ?_ ?_; (focus (first | omega | (simp only [List.length_nil, fx, hjn, hlen2, hat, hKn] <;> omega))); (focus (first | omega | (simp only [List.length_nil, fx, hjn, hlen2, hat, hKn] <;> omega))); conv => whnf)
      | (refine nth_bs ?_ ?_ ?_; (focus (first | omega | (simp only [List.length_nil, fx, hjn, hlen2, hat, hKn] <;> omega))); (focus (first | omega | (simp only [List.length_nil, fx, hjn, hlen2, hat, hKn] <;> omega))); conv => whnf))
    · refine loopC (hC1 ⟨by omega, by omega⟩ (by omega)) ?_
      rw [hK1 (.inl (by assumption))]
      dsimp only
      unfold idxOwn
      rw [← hset (by omega), hlK, hlj]
      rfl
    · refine loopC (hC1 ⟨by omega, by omega⟩ (by omega)) ?_
      rw [hK1 (.inr (by simp only at *; omega))]
      dsimp only
      unfold idxOwn
      rw [← hset (by omega), hlK, hlj]
      rfl
    · have hm0 : 0 < m := by simp only at *; omega
      refine loopC (hC1 ⟨by omega, by omega⟩ (by omega)) ?_
      rw [hnx (K, m) (K, m - 1) rfl (if_pos ⟨by assumption, hm0⟩)]
      dsimp only
      rw [show (-((m - 1 : Nat) : Int)) = IntKind.i64.wrap (-((m : Nat) : Int) + 1) by rw [hwm]; omega, hlj]
      rfl
    · show (0 : Int) ≤ ((K.length : Nat) : Int) ∧ ((K.length : Nat) : Int) ≤ lenL (putL (is (K ++ l.drop K.length)) (Nat.add 0 ((K.length : Nat) : Int).toNat) (List.replicate (lenL (is (K ++ l.drop K.length)) (Nat.add 0 ((K.length : Nat) : Int).toNat) none).toNat (T.int .i64 0))) 0 none
      rw [hput]
      refine ⟨by omega, ?_⟩
      show _ ≤ (((is (K ++ List.replicate (l.length - K.length) 0)).length : Nat) : Int)
      rw [is_len, List.length_append]; omega
    · have hjl : j = l.length := by omega
      have hKd : K = delN o (-n).toNat l := by
        have := stD_end l o (-n).toNat
        rw [← hjl, hKm] at this
        exact this
      show R (.sl 85063 0 (some ((K.length : Nat) : Int).toNat)) [(85063, .lst 1 (putL (is (K ++ l.drop K.length)) (Nat.add 0 ((K.length : Nat) : Int).toNat) (List.replicate (lenL (is (K ++ l.drop K.length)) (Nat.add 0 ((K.length : Nat) : Int).toNat) none).toNat (T.int .i64 0))) 0), (69, .cells [.t (.int .i64 (-((m : Nat) : Int)))]), (68, .cells [.t (.int .i64 o)])]
      rw [hput]
      exact hR _ _ K.length _ rfl (by simp) (by rw [List.take_left', ← hKd]; rfl)
  · conv => whnf
    repeat' (first
      | (refine brK_true rfl ?_; conv => whnf)
      | (refine brK_false rfl ?_; conv => whnf)
      | (refine brK_true (by assumption) ?_; conv => whnf)
      | (refine brK_false (by assumption) ?_; conv => whnf)
      | (refine brK_true ?_ ?_; (focus (simp only [List.length_nil, fx] <;> omega)); conv => whnf)
      | (refine brK_false ?_ ?_; (focus (simp only [List.length_nil, fx] <;> omega)); conv => whnf)
      | ((refine brK_of (fun h => ?_) (fun h => ?_)) <;> (have h2 := h; (try simp only [List.length_nil, fx] at h2); conv => whnf))
      | (refine reqK_of ?_ ?_; (focus (first | decide | omega | assumption | (simp only [List.length_nil, fx] <;> omega) | (simp [keyNew, sameKey, kEq] <;> omega))); conv => whnf)
      | (refine reqK_of ?_ ?_; rotate_left; (conv => whnf); rotate_left)
      | (refine nth_us ?_ ?_ ?_; (focus (first | omega | (simp only [List.length_nil, fx] <;> omega))); (focus (first | omega | (simp only [List.length_nil, fx] <;> omega))); conv => whnf)
      | (refine nth_is ?_ ?_ ?_; (focus (first | omega | (simp only [List.length_nil, fx] <;> omega))); (focus (first | omega | (simp only [List.length_nil, fx] <;> omega))); conv => whnf)
      | (refine nth_bs ?_ ?_ ?_; (focus (first | omega | (simp only [List.length_nil, fx] <;> omega))); (focus (first | omega | (simp only [List.length_nil, fx] <;> omega))); conv => whnf))
    exact hR0 fun hm => by
      obtain ⟨j, hj, e⟩ := List.mem_iff_getElem.1 hm
      exact hno j hj (by simp [at0, hj, e])
theorem inl_del_nil {base : Nat} {o n : Int} {R : V → Own → Prop} (hR : R (.t .nils) [(69, .cells [.t (.int .i64 n)]), (68, .cells [.t (.int .i64 o)])]) :
    inl B7 m49 base [.t .nils, .fn (.func 57) [] [.ptr 68 0, .ptr 69 0]] [(69, .cells [.t (.int .i64 n)]), (68, .cells [.t (.int .i64 o)])] R := by
  unfold inl
  conv => whnf
  repeat' (first
    | (refine brK_true rfl ?_; conv => whnf)
    | (refine brK_false rfl ?_; conv => whnf)
    | (refine brK_true (by assumption) ?_; conv => whnf)
    | (refine brK_false (by assumption) ?_; conv => whnf)
    | (refine brK_true ?_ ?_; (focus (simp only [List.length_nil, fx] <;> omega)); conv => whnf)
    | (refine brK_false ?_ ?_; (focus (simp only [List.length_nil, fx] <;> omega)); conv => whnf)
    | ((refine brK_of (fun h => ?_) (fun h => ?_)) <;> (have h2 := h; (try simp only [List.length_nil, fx] at h2); conv => whnf))
    | (refine reqK_of ?_ ?_; (focus (first | decide | omega | assumption | (simp only [List.length_nil, fx] <;> omega) | (simp [keyNew, sameKey, kEq] <;> omega))); conv => whnf)
    | (refine reqK_of ?_ ?_; rotate_left; (conv => whnf); rotate_left)
    | (refine nth_us ?_ ?_ ?_; (focus (first | omega | (simp only [List.length_nil, fx] <;> omega))); (focus (first | omega | (simp only [List.length_nil, fx] <;> omega))); conv => whnf)
    | (refine nth_is ?_ ?_ ?_; (focus (first | omega | (simp only [List.length_nil, fx] <;> omega))); (focus (first | omega | (simp only [List.length_nil, fx] <;> omega))); conv => whnf)
    | (refine nth_bs ?_ ?_ ?_; (focus (first | omega | (simp only [List.length_nil, fx] <;> omega))); (focus (first | omega | (simp only [List.length_nil, fx] <;> omega))); conv => whnf))
  refine .inl ⟨o, n, rfl, rfl, fun z hz => ?_⟩
  conv => whnf
  repeat' (first
    | (refine brK_true rfl ?_; conv => whnf)
    | (refine brK_false rfl ?_; conv => whnf)
    | (refine brK_true (by assumption) ?_; conv => whnf)
    | (refine brK_false (by assumption) ?_; conv => whnf)
    | (refine brK_true ?_ ?_; (focus (simp only [List.length_nil, fx] <;> omega)); conv => whnf)
    | (refine brK_false ?_ ?_; (focus (simp only [List.length_nil, fx] <;> omega)); conv => whnf)
    | ((refine brK_of (fun h => ?_) (fun h => ?_)) <;> (have h2 := h; (try simp only [List.length_nil, fx] at h2); conv => whnf))
    | (refine reqK_of ?_ ?_; (focus (first | decide | omega | assumption | (simp only [List.length_nil, fx] <;> omega) | (simp [keyNew, sameKey, kEq] <;> omega))); conv => whnf)
    | (refine reqK_of ?_ ?_; rotate_left; (conv => whnf); rotate_left)
    | (refine nth_us ?_ ?_ ?_; (focus (first | omega | (simp only [List.length_nil, fx] <;> omega))); (focus (first | omega | (simp only [List.length_nil, fx] <;> omega))); conv => whnf)
    | (refine nth_is ?_ ?_ ?_; (focus (first | omega | (simp only [List.length_nil, fx] <;> omega))); (focus (first | omega | (simp only [List.length_nil, fx] <;> omega))); conv => whnf)
    | (refine nth_bs ?_ ?_ ?_; (focus (first | omega | (simp only [List.length_nil, fx] <;> omega))); (focus (first | omega | (simp only [List.length_nil, fx] <;> omega))); conv => whnf))
  exact hR
def ptDel : Pt := fun base args own R => (∃ o n, args = [.t .nils, .fn (.func 57) [] [.ptr 68 0, .ptr 69 0]] ∧ own = [(69, .cells [.t (.int .i64 n)]), (68, .cells [.t (.int .i64 o)])] ∧ R (.t .nils) own) ∨
  ∃ l o n, base = 87040 ∧ args = [.sl 85063 0 none, .fn (.func 57) [] [.ptr 68 0, .ptr 69 0]] ∧ own = idxOwn l o n ∧ l.length ≤ 17592186044416 ∧ (n < 0 ∧ I64 n) ∧ (o ∉ l → R (.sl 85063 0 none) (idxOwn l o n)) ∧
    ∀ (ts : List Int) (z : Int) (k : Nat) (r : Int), z = (k : Int) → k ≤ ts.length → ts.take k = delN o (-n).toNat l → R (.sl 85063 0 (some z.toNat)) (idxOwn ts o r)
theorem ptDel_ok (base : Nat) (args : List V) (own : Own) (R : V → Own → Prop) (h : ptDel base args own R) : FnV Try.prog tgl 49 args own R := by
  rcases h with ⟨o, n, rfl, rfl, h⟩ | ⟨l, o, n, rfl, rfl, rfl, h1, h2, h3, h4⟩
  · exact inl_ok (base := base) env_B7 Try.func49 low49 (inl_del_nil h)
  · exact inl_ok env_B7 Try.func49 low49 (inl_del h1 h2 h3 h4)
noncomputable def lB8 : List (Nat × (List T → Ans)) := lB7
noncomputable def iB8 : List (Nat × Pt) := (49, ptDel) :: iB7
noncomputable abbrev B8 : Env := En tgl lB8 iB8
theorem env_B8 : EnvOk Try.prog B8 := env_ptB env_B7 ptDel_ok
theorem delN_nil (o : Int) (m : Nat) : delN o m ([] : List Int) = [] := by cases m <;> rfl
theorem delN_sub (o : Int) : ∀ (m : Nat) (l : List Int), ∀ x ∈ delN o m l, x ∈ l
  | m, [], x, h => by rw [delN_nil] at h; exact h
  | 0, y :: l, x, h => h
  | m + 1, y :: l, x, h => by
    rw [delN] at h
    split at h
    · exact List.mem_cons_of_mem _ (delN_sub o m l x h)
    · rcases List.mem_cons.1 h with rfl | h
      · simp
      · exact List.mem_cons_of_mem _ (delN_sub o (m + 1) l x h)
theorem ok24 (xs : List T) (o n : Int) (hq : (IsI xs ∧ (xs.length + (minI n 1000).toNat) * 8 ≤ maxBytes) ∧ I64 o ∧ I64 n) : FnOk Try.prog tgl 24 [.list 1 xs, .int .i64 o, .int .i64 n] (.list 1 (is (addB (nums xs) o n))) := by
  refine fn_ok (Γ := B8) env_B8 Try.func24 low24 ?_
  obtain ⟨⟨⟨l, rfl, hl⟩, hs⟩, ho, hn64⟩ := hq
  unfold maxBytes at hs
  rw [is_len] at hs
  have hq1 : IsI (is l) ∧ SzB (is l) := ⟨isI_is hl, by unfold SzB maxBytes; rw [is_len]; omega⟩
  rw [nums_is]
  by_cases hn : 0 ≤ n
  · have hq2 : 0 ≤ minI n 1000 ∧ minI n 1000 ≤ 1000 := by rw [minI_def]; split <;> omega
    have hmin : minI n 1000 = min n 1000 := by rw [minI_def]; omega
    have hb : ((is l).length + (is (List.replicate (minI n 1000).toNat o)).length) * 8 ≤ maxBytes := by
      rw [is_len, is_len, List.length_replicate]; unfold maxBytes; omega
    have hqa : IsI (subL (subL (is l) 0 none ++ is (List.replicate (minI n 1000).toNat o)) 0 none) ∧ SzB (subL (subL (is l) 0 none ++ is (List.replicate (minI n 1000).toNat o)) 0 none) := by
      rw [subL_00, subL_00, is_app]
      refine ⟨isI_is fun m hm => ?_, ?_⟩
      · rcases List.mem_append.1 hm with h | h
        · exact hl m h
        · rw [List.eq_of_mem_replicate h]; exact ho
      · unfold SzB maxBytes; rw [is_len, List.length_append, List.length_replicate]; omega
    conv => whnf
    repeat' (first
      | (refine brK_true rfl ?_; conv => whnf)
      | (refine brK_false rfl ?_; conv => whnf)
      | (refine brK_true (by assumption) ?_; conv => whnf)
      | (refine brK_false (by assumption) ?_; conv => whnf)
      | (refine brK_true ?_ ?_; (focus (simp only [List.length_nil, fx] <;> omega)); conv => whnf)
      | (refine brK_false ?_ ?_; (focus (simp only [List.length_nil, fx] <;> omega)); conv => whnf)
      | ((refine brK_of (fun h => ?_) (fun h => ?_)) <;> (have h2 := h; (try simp only [List.length_nil, fx] at h2); conv => whnf))
      | (refine reqK_of ?_ ?_; (focus (first | decide | omega | assumption | (simp only [List.length_nil, fx] <;> omega) | (simp [keyNew, sameKey, kEq] <;> omega))); conv => whnf)
      | (refine reqK_of ?_ ?_; rotate_left; (conv => whnf); rotate_left)
      | (refine nth_us ?_ ?_ ?_; (focus (first | omega | (simp only [List.length_nil, fx] <;> omega))); (focus (first | omega | (simp only [List.length_nil, fx] <;> omega))); conv => whnf)
      | (refine nth_is ?_ ?_ ?_; (focus (first | omega | (simp only [List.length_nil, fx] <;> omega))); (focus (first | omega | (simp only [List.length_nil, fx] <;> omega))); conv => whnf)
      | (refine nth_bs ?_ ?_ ?_; (focus (first | omega | (simp only [List.length_nil, fx] <;> omega))); (focus (first | omega | (simp only [List.length_nil, fx] <;> omega))); conv => whnf))
    rw [subL_00, subL_00, is_app, nums_is]
    unfold addB
    rw [if_pos hn, hmin]
  · have hlb : (is l).length * 8 ≤ maxBytes := hq1.2
    have hlen := sz_lenB hq1.2
    have hn' : n < 0 := by omega
    have had : addB l o n = srt (delN o (-n).toNat l) := by unfold addB; rw [if_neg hn]
    conv => whnf
    repeat' (first
      | (refine brK_true rfl ?_; conv => whnf)
      | (refine brK_false rfl ?_; conv => whnf)
      | (refine brK_true (by assumption) ?_; conv => whnf)
      | (refine brK_false (by assumption) ?_; conv => whnf)
      | (refine brK_true ?_ ?_; (focus (simp only [List.length_nil, fx] <;> omega)); conv => whnf)
      | (refine brK_false ?_ ?_; (focus (simp only [List.length_nil, fx] <;> omega)); conv => whnf)
      | ((refine brK_of (fun h => ?_) (fun h => ?_)) <;> (have h2 := h; (try simp only [List.length_nil, fx] at h2); conv => whnf))
      | (refine reqK_of ?_ ?_; (focus (first | decide | omega | assumption | (simp only [List.length_nil, fx] <;> omega) | (simp [keyNew, sameKey, kEq] <;> omega))); conv => whnf)
      | (refine reqK_of ?_ ?_; rotate_left; (conv => whnf); rotate_left)
      | (refine nth_us ?_ ?_ ?_; (focus (first | omega | (simp only [List.length_nil, fx] <;> omega))); (focus (first | omega | (simp only [List.length_nil, fx] <;> omega))); conv => whnf)
      | (refine nth_is ?_ ?_ ?_; (focus (first | omega | (simp only [List.length_nil, fx] <;> omega))); (focus (first | omega | (simp only [List.length_nil, fx] <;> omega))); conv => whnf)
      | (refine nth_bs ?_ ?_ ?_; (focus (first | omega | (simp only [List.length_nil, fx] <;> omega))); (focus (first | omega | (simp only [List.length_nil, fx] <;> omega))); conv => whnf))
    refine altK_of ?_ (fun hnil => ?_)
    · conv => whnf
      repeat' (first
        | (refine brK_true rfl ?_; conv => whnf)
        | (refine brK_false rfl ?_; conv => whnf)
        | (refine brK_true (by assumption) ?_; conv => whnf)
        | (refine brK_false (by assumption) ?_; conv => whnf)
        | (refine brK_true ?_ ?_; (focus (simp only [List.length_nil, fx] <;> omega)); conv => whnf)
        | (refine brK_false ?_ ?_; (focus (simp only [List.length_nil, fx] <;> omega)); conv => whnf)
        | ((refine brK_of (fun h => ?_) (fun h => ?_)) <;> (have h2 := h; (try simp only [List.length_nil, fx] at h2); conv => whnf))
        | (refine reqK_of ?_ ?_; (focus (first | decide | omega | assumption | (simp only [List.length_nil, fx] <;> omega) | (simp [keyNew, sameKey, kEq] <;> omega))); conv => whnf)
        | (refine reqK_of ?_ ?_; rotate_left; (conv => whnf); rotate_left)
        | (refine nth_us ?_ ?_ ?_; (focus (first | omega | (simp only [List.length_nil, fx] <;> omega))); (focus (first | omega | (simp only [List.length_nil, fx] <;> omega))); conv => whnf)
        | (refine nth_is ?_ ?_ ?_; (focus (first | omega | (simp only [List.length_nil, fx] <;> omega))); (focus (first | omega | (simp only [List.length_nil, fx] <;> omega))); conv => whnf)
        | (refine nth_bs ?_ ?_ ?_; (focus (first | omega | (simp only [List.length_nil, fx] <;> omega))); (focus (first | omega | (simp only [List.length_nil, fx] <;> omega))); conv => whnf))
      refine .inr ⟨l, o, n, rfl, rfl, rfl, hlen, ⟨hn', hn64⟩, fun hno => ?_, fun ts z k r hz hk ht => ?_⟩
      · conv => whnf
        repeat' (first
          | (refine brK_true rfl ?_; conv => whnf)
          | (refine brK_false rfl ?_; conv => whnf)
          | (refine brK_true (by assumption) ?_; conv => whnf)
          | (refine brK_false (by assumption) ?_; conv => whnf)
          | (refine brK_true ?_ ?_; (focus (simp only [List.length_nil, fx] <;> omega)); conv => whnf)
          | (refine brK_false ?_ ?_; (focus (simp only [List.length_nil, fx] <;> omega)); conv => whnf)
          | ((refine brK_of (fun h => ?_) (fun h => ?_)) <;> (have h2 := h; (try simp only [List.length_nil, fx] at h2); conv => whnf))
          | (refine reqK_of ?_ ?_; (focus (first | decide | omega | assumption | (simp only [List.length_nil, fx] <;> omega) | (simp [keyNew, sameKey, kEq] <;> omega))); conv => whnf)
          | (refine reqK_of ?_ ?_; rotate_left; (conv => whnf); rotate_left)
          | (refine nth_us ?_ ?_ ?_; (focus (first | omega | (simp only [List.length_nil, fx] <;> omega))); (focus (first | omega | (simp only [List.length_nil, fx] <;> omega))); conv => whnf)
          | (refine nth_is ?_ ?_ ?_; (focus (first | omega | (simp only [List.length_nil, fx] <;> omega))); (focus (first | omega | (simp only [List.length_nil, fx] <;> omega))); conv => whnf)
          | (refine nth_bs ?_ ?_ ?_; (focus (first | omega | (simp only [List.length_nil, fx] <;> omega))); (focus (first | omega | (simp only [List.length_nil, fx] <;> omega))); conv => whnf))
        rw [subL_00, nums_is, had, delN_no _ _ _ hno]
      · have hsb : subL (is ts) 0 (some z.toNat) = is (delN o (-n).toNat l) := by
          rw [← ht, hz]; simp [subL, is, List.map_take]
        have hqd : IsI (subL (is ts) 0 (some z.toNat)) ∧ SzB (subL (is ts) 0 (some z.toNat)) := by
          rw [hsb]
          refine ⟨isI_is fun x hx => hl x (delN_sub _ _ _ x hx), sz_B ?_⟩
          have := delN_len o (-n).toNat l
          omega
        conv => whnf
        repeat' (first
          | (refine brK_true rfl ?_; conv => whnf)
          | (refine brK_false rfl ?_; conv => whnf)
          | (refine brK_true (by assumption) ?_; conv => whnf)
          | (refine brK_false (by assumption) ?_; conv => whnf)
          | (refine brK_true ?_ ?_; (focus (simp only [List.length_nil, fx] <;> omega)); conv => whnf)
          | (refine brK_false ?_ ?_; (focus (simp only [List.length_nil, fx] <;> omega)); conv => whnf)
          | ((refine brK_of (fun h => ?_) (fun h => ?_)) <;> (have h2 := h; (try simp only [List.length_nil, fx] at h2); conv => whnf))
          | (refine reqK_of ?_ ?_; (focus (first | decide | omega | assumption | (simp only [List.length_nil, fx] <;> omega) | (simp [keyNew, sameKey, kEq] <;> omega))); conv => whnf)
          | (refine reqK_of ?_ ?_; rotate_left; (conv => whnf); rotate_left)
          | (refine nth_us ?_ ?_ ?_; (focus (first | omega | (simp only [List.length_nil, fx] <;> omega))); (focus (first | omega | (simp only [List.length_nil, fx] <;> omega))); conv => whnf)
          | (refine nth_is ?_ ?_ ?_; (focus (first | omega | (simp only [List.length_nil, fx] <;> omega))); (focus (first | omega | (simp only [List.length_nil, fx] <;> omega))); conv => whnf)
          | (refine nth_bs ?_ ?_ ?_; (focus (first | omega | (simp only [List.length_nil, fx] <;> omega))); (focus (first | omega | (simp only [List.length_nil, fx] <;> omega))); conv => whnf))
        rw [hsb, nums_is, had]
    · have hnil := is_nil_iff.1 hnil
      subst hnil
      conv => whnf
      repeat' (first
        | (refine brK_true rfl ?_; conv => whnf)
        | (refine brK_false rfl ?_; conv => whnf)
        | (refine brK_true (by assumption) ?_; conv => whnf)
        | (refine brK_false (by assumption) ?_; conv => whnf)
        | (refine brK_true ?_ ?_; (focus (simp only [List.length_nil, fx] <;> omega)); conv => whnf)
        | (refine brK_false ?_ ?_; (focus (simp only [List.length_nil, fx] <;> omega)); conv => whnf)
        | ((refine brK_of (fun h => ?_) (fun h => ?_)) <;> (have h2 := h; (try simp only [List.length_nil, fx] at h2); conv => whnf))
        | (refine reqK_of ?_ ?_; (focus (first | decide | omega | assumption | (simp only [List.length_nil, fx] <;> omega) | (simp [keyNew, sameKey, kEq] <;> omega))); conv => whnf)
        | (refine reqK_of ?_ ?_; rotate_left; (conv => whnf); rotate_left)
        | (refine nth_us ?_ ?_ ?_; (focus (first | omega | (simp only [List.length_nil, fx] <;> omega))); (focus (first | omega | (simp only [List.length_nil, fx] <;> omega))); conv => whnf)
        | (refine nth_is ?_ ?_ ?_; (focus (first | omega | (simp only [List.length_nil, fx] <;> omega))); (focus (first | omega | (simp only [List.length_nil, fx] <;> omega))); conv => whnf)
        | (refine nth_bs ?_ ?_ ?_; (focus (first | omega | (simp only [List.length_nil, fx] <;> omega))); (focus (first | omega | (simp only [List.length_nil, fx] <;> omega))); conv => whnf))
      refine .inl ⟨o, n, rfl, rfl, ?_⟩
      conv => whnf
      repeat' (first
        | (refine brK_true rfl ?_; conv => whnf)
        | (refine brK_false rfl ?_; conv => whnf)
        | (refine brK_true (by assumption) ?_; conv => whnf)
        | (refine brK_false (by assumption) ?_; conv => whnf)
        | (refine brK_true ?_ ?_; (focus (simp only [List.length_nil, fx] <;> omega)); conv => whnf)
        | (refine brK_false ?_ ?_; (focus (simp only [List.length_nil, fx] <;> omega)); conv => whnf)
        | ((refine brK_of (fun h => ?_) (fun h => ?_)) <;> (have h2 := h; (try simp only [List.length_nil, fx] at h2); conv => whnf))
        | (refine reqK_of ?_ ?_; (focus (first | decide | omega | assumption | (simp only [List.length_nil, fx] <;> omega) | (simp [keyNew, sameKey, kEq] <;> omega))); conv => whnf)
        | (refine reqK_of ?_ ?_; rotate_left; (conv => whnf); rotate_left)
        | (refine nth_us ?_ ?_ ?_; (focus (first | omega | (simp only [List.length_nil, fx] <;> omega))); (focus (first | omega | (simp only [List.length_nil, fx] <;> omega))); conv => whnf)
        | (refine nth_is ?_ ?_ ?_; (focus (first | omega | (simp only [List.length_nil, fx] <;> omega))); (focus (first | omega | (simp only [List.length_nil, fx] <;> omega))); conv => whnf)
        | (refine nth_bs ?_ ?_ ?_; (focus (first | omega | (simp only [List.length_nil, fx] <;> omega))); (focus (first | omega | (simp only [List.length_nil, fx] <;> omega))); conv => whnf))
      rw [had, delN_nil]
      unfold srt
      rw [List.mergeSort_nil]
      rfl
theorem ok24_2 (o n : Int) (hq : I64 o ∧ 0 ≤ n ∧ n ≤ 1000) : FnOk Try.prog tgl 24 [.nils, .int .i64 o, .int .i64 n] (.list 1 (is (addB [] o n))) := by
  refine fn_ok (Γ := B8) env_B8 Try.func24 low24 ?_
  obtain ⟨ho, hn0, hn1⟩ := hq
  have hmi : minI n 1000 = n := by rw [minI_def]; split <;> omega
  have hmin : min n 1000 = n := by omega
  have hq2 : 0 ≤ minI n 1000 ∧ minI n 1000 ≤ 1000 := by omega
  have hb : ((([] : List T)).length + (is (List.replicate (minI n 1000).toNat o)).length) * 8 ≤ maxBytes := by
    rw [is_len, List.length_replicate, hmi]; unfold maxBytes; simp only [List.length_nil]; omega
  have hqa : IsI (subL (subL [] 0 none ++ is (List.replicate (minI n 1000).toNat o)) 0 none) ∧ SzB (subL (subL [] 0 none ++ is (List.replicate (minI n 1000).toNat o)) 0 none) := by
    rw [subL_00, subL_00, List.nil_append]
    exact ⟨isI_is fun m hm => by rw [List.eq_of_mem_replicate hm]; exact ho, sz_B (by rw [List.length_replicate]; omega)⟩
  conv => whnf
  repeat' (first
    | (refine brK_true rfl ?_; conv => whnf)
    | (refine brK_false rfl ?_; conv => whnf)
    | (refine brK_true (by assumption) ?_; conv => whnf)
    | (refine brK_false (by assumption) ?_; conv => whnf)
    | (refine brK_true ?_ ?_; (focus (simp only [List.length_nil, fx] <;> omega)); conv => whnf)
    | (refine brK_false ?_ ?_; (focus (simp only [List.length_nil, fx] <;> omega)); conv => whnf)
    | ((refine brK_of (fun h => ?_) (fun h => ?_)) <;> (have h2 := h; (try simp only [List.length_nil, fx] at h2); conv => whnf))
    | (refine reqK_of ?_ ?_; (focus (first | decide | omega | assumption | (simp only [List.length_nil, fx] <;> omega) | (simp [keyNew, sameKey, kEq] <;> omega))); conv => whnf)
    | (refine reqK_of ?_ ?_; rotate_left; (conv => whnf); rotate_left)
    | (refine nth_us ?_ ?_ ?_; (focus (first | omega | (simp only [List.length_nil, fx] <;> omega))); (focus (first | omega | (simp only [List.length_nil, fx] <;> omega))); conv => whnf)
    | (refine nth_is ?_ ?_ ?_; (focus (first | omega | (simp only [List.length_nil, fx] <;> omega))); (focus (first | omega | (simp only [List.length_nil, fx] <;> omega))); conv => whnf)
    | (refine nth_bs ?_ ?_ ?_; (focus (first | omega | (simp only [List.length_nil, fx] <;> omega))); (focus (first | omega | (simp only [List.length_nil, fx] <;> omega))); conv => whnf))
  rw [subL_00, subL_00, List.nil_append, nums_is, hmi]
  unfold addB
  rw [if_pos hn0, hmin, List.nil_append]
open Classical in
noncomputable def c24 : List T → Ans
  | [.list 1 xs, .int .i64 o, .int .i64 n] => .req ((IsI xs ∧ (xs.length + (minI n 1000).toNat) * 8 ≤ maxBytes) ∧ I64 o ∧ I64 n) (.list 1 (is (addB (nums xs) o n)))
  | [.nils, .int .i64 o, .int .i64 n] => .req (I64 o ∧ 0 ≤ n ∧ n ≤ 1000) (.list 1 (is (addB [] o n)))
  | _ => .no
theorem got24 {vs : List T} {x : T} (h : Got (c24 vs) x) : FnOk Try.prog tgl 24 vs x := by
  unfold c24 at h
  split at h
  · obtain ⟨hq, e⟩ := got_req h; rw [e]; exact ok24 _ _ _ hq
  · obtain ⟨hq, e⟩ := got_req h; rw [e]; exact ok24_2 _ _ hq
  · exact (got_no h).elim
theorem nogl24 (vs : List T) (p : Prop) (d : Decidable p) (sz : Nat) (xs : List T) (h : c24 vs = @Ans.gl p d sz xs) : False := by
  unfold c24 at h
  split at h <;> cases h
theorem pk24 (vs : List T) (p : Prop) (d : Decidable p) (x : T) (h : c24 vs = @Ans.pk p d x) (hp : p) : FnOk Try.prog tgl 24 vs x := by
  unfold c24 at h
  split at h
  · cases h
  · cases h
  · cases h
end Go.Nx
