/-
  LAYING.
-/
import Derived.Test.YtommbfigioeghaaEe
set_option linter.unusedVariables false
set_option linter.unusedSimpArgs false
set_option maxRecDepth 20000
set_option maxHeartbeats 4000000
namespace Go.Nx
open Go.RowKit Go.Proofs

def layN (m : List Int) (nx : Int) (l : List Int) : Nat → List Int
  | 0 => m
  | k + 1 => stL (layN m nx l k) (IntKind.i64.wrap (nx + at0 l k)) (IntKind.u64.wrap (if k + 1 < l.length then at0 l ((k : Int) + 1) else 0))
def layL (m : List Int) (hd nx : Int) (l : List Int) : List Int := stL (layN m nx l l.length) hd (pk 0 (if 0 < l.length then at0 l 0 else 0))
theorem stL_R {l : List Int} (hl : ∀ n ∈ l, R64 n) (i : Int) {v : Int} (hv : R64 v) : ∀ n ∈ stL l i v, R64 n := doL_R hl _ _ hv (by unfold R64; omega)
theorem stL_len (l : List Int) (i v : Int) : (stL l i v).length = l.length := doL_len _ _ _ _ _
theorem sz_of {l r : List Int} (h : Sz (us l)) (e : r.length = l.length) : Sz (us r) := by unfold Sz at *; rw [us_len] at *; rw [e]; exact h
theorem layN_inv {m : List Int} {nx : Int} {r : List Int} (hm : ∀ n ∈ m, R64 n) (hs : Sz (us m)) (k : Nat) : IsU (us (layN m nx r k)) ∧ Sz (us (layN m nx r k)) := by
  have : (∀ n ∈ layN m nx r k, R64 n) ∧ (layN m nx r k).length = m.length := by
    induction k with
    | zero => exact ⟨hm, rfl⟩
    | succ k ih => exact ⟨stL_R ih.1 _ (wrapu_R _), by rw [layN, stL_len]; exact ih.2⟩
  exact ⟨isU_us this.1, sz_of hs this.2⟩
theorem layN_mid {m : List Int} {nx : Int} {r : List Int} {k : Nat} (h : k + 1 < r.length) : layN m nx r (k + 1) = stL (layN m nx r k) (IntKind.i64.wrap (nx + at0 r k)) (IntKind.u64.wrap (at0 r ((k : Int) + 1))) := by rw [layN, if_pos h]
theorem layN_last {m : List Int} {nx : Int} {r : List Int} {k : Nat} (h : ¬ k + 1 < r.length) : layN m nx r (k + 1) = stL (layN m nx r k) (IntKind.i64.wrap (nx + at0 r k)) (IntKind.u64.wrap 0) := by rw [layN, if_neg h]
theorem layL_pos {m : List Int} {hd nx : Int} {l : List Int} (h : 0 < l.length) : layL m hd nx l = stL (layN m nx l l.length) hd (pk 0 (at0 l 0)) := by rw [layL, if_pos h]
theorem layL_neg {m : List Int} {hd nx : Int} {l : List Int} (h : ¬ 0 < l.length) : layL m hd nx l = stL (layN m nx l l.length) hd (pk 0 0) := by rw [layL, if_neg h]
theorem layL_nil (m : List Int) (hd nx : Int) : layL m hd nx [] = stL m hd (pk 0 0) := by simp [layL, layN]
noncomputable def lE7 : List (Nat × (List T → Ans)) := (45, c45) :: lE5
noncomputable def iE7 : List (Nat × Pt) := iE5
noncomputable abbrev E7 : Env := En tgl lE7 iE7
theorem env_E7 : EnvOk Try.prog E7 := (env_fn env_E5 (fun _ _ => got45) (fun vs p d sz xs h _ => (nogl45 vs p d sz xs h).elim) pk45)
theorem ok39 (xs : List T) (hd nx : Int) (ys : List T) (hq : (IsU xs ∧ Sz xs) ∧ IsI ys ∧ Sz ys) : FnOk Try.prog tgl 39 [.list 1 xs, .int .i64 hd, .int .i64 nx, .list 1 ys] (.list 1 (us (layL (nums xs) hd nx (nums ys)))) := by
  refine fn_ok (Γ := E7) env_E7 Try.func39 low39 ?_
  obtain ⟨hq1, ⟨r, rfl, hr⟩, ht⟩ := hq
  obtain ⟨l, rfl, hl⟩ := hq1.1
  have hinv := layN_inv (nx := nx) (r := r) hl hq1.2
  have hlen := szi_len ht
  have hR0 : R64 0 := by unfold R64; omega
  rw [nums_us, nums_is]
  conv => whnf
  repeat' (first
    | (refine brK_true (by assumption) ?_; conv => whnf)
    | (refine brK_false (by assumption) ?_; conv => whnf)
    | (refine brK_true ?_ ?_; (focus (simp only [List.length_nil, not_t, not_f, lt_t, lt_f, le_t, le_f, eq_t, eq_f, us_len, is_len, bs_len, lenL_00] <;> omega)); conv => whnf)
    | (refine brK_false ?_ ?_; (focus (simp only [List.length_nil, not_t, not_f, lt_t, lt_f, le_t, le_f, eq_t, eq_f, us_len, is_len, bs_len, lenL_00] <;> omega)); conv => whnf)
    | ((refine brK_of (fun h => ?_) (fun h => ?_)) <;> (have h2 := h; (try simp only [List.length_nil, not_t, not_f, lt_t, lt_f, le_t, le_f, eq_t, eq_f, us_len, is_len, bs_len, lenL_00] at h2); conv => whnf))
    | (refine reqK_of ?_ ?_; (focus (first | decide | omega | assumption | (simp only [List.length_nil, not_t, not_f, lt_t, lt_f, le_t, le_f, eq_t, eq_f, us_len, is_len, bs_len, lenL_00] <;> omega) | (simp [keyNew, sameKey, kEq] <;> omega))); conv => whnf)
    | (refine reqK_of ?_ ?_; rotate_left; (conv => whnf); rotate_left)
    | (refine nth_us ?_ ?_ ?_; (focus (first | omega | (simp only [List.length_nil, not_t, not_f, lt_t, lt_f, le_t, le_f, eq_t, eq_f, us_len, is_len, bs_len, lenL_00] <;> omega))); (focus (first | omega | (simp only [List.length_nil, not_t, not_f, lt_t, lt_f, le_t, le_f, eq_t, eq_f, us_len, is_len, bs_len, lenL_00] <;> omega))); conv => whnf)
    | (refine nth_is ?_ ?_ ?_; (focus (first | omega | (simp only [List.length_nil, not_t, not_f, lt_t, lt_f, le_t, le_f, eq_t, eq_f, us_len, is_len, bs_len, lenL_00] <;> omega))); (focus (first | omega | (simp only [List.length_nil, not_t, not_f, lt_t, lt_f, le_t, le_f, eq_t, eq_f, us_len, is_len, bs_len, lenL_00] <;> omega))); conv => whnf)
    | (refine nth_bs ?_ ?_ ?_; (focus (first | omega | (simp only [List.length_nil, not_t, not_f, lt_t, lt_f, le_t, le_f, eq_t, eq_f, us_len, is_len, bs_len, lenL_00] <;> omega))); (focus (first | omega | (simp only [List.length_nil, not_t, not_f, lt_t, lt_f, le_t, le_f, eq_t, eq_f, us_len, is_len, bs_len, lenL_00] <;> omega))); conv => whnf))
  refine loopSet [] [.kill 9, .kill 10, .kill 15, .kill 16, .kill 17, .kill 18, .kill 19, .kill 20, .kill 21, .kill 22, .kill 23, .kill 24, .kill 25, .kill 26, .kill 27, .kill 28, .kill 29, .kill 30, .kill 31, .kill 32, .kill 33, .kill 34, .kill 35, .kill 36, .kill 37] (fun k : Nat => [(0, .t (.list 1 (us (layN l nx r k)))), (14, .t (.int .i64 (k : Int)))]) (fun _ => []) (fun k => k ≤ r.length) (fun k => r.length - k) 0 (Nat.zero_le _) ?_
  conv => whnf
  refine ⟨⟨rfl, rfl⟩, fun k hk C hC => ?_⟩
  have hk' := hinv k
  have hw : IntKind.i64.wrap ((k : Int) + 1) = (k : Int) + 1 := wrap_i64 ⟨by omega, by omega⟩
  conv => whnf
  repeat' (first
    | (refine brK_true (by assumption) ?_; conv => whnf)
    | (refine brK_false (by assumption) ?_; conv => whnf)
    | (refine brK_true ?_ ?_; (focus (simp only [List.length_nil, not_t, not_f, lt_t, lt_f, le_t, le_f, eq_t, eq_f, us_len, is_len, bs_len, lenL_00, hw] <;> omega)); conv => whnf)
    | (refine brK_false ?_ ?_; (focus (simp only [List.length_nil, not_t, not_f, lt_t, lt_f, le_t, le_f, eq_t, eq_f, us_len, is_len, bs_len, lenL_00, hw] <;> omega)); conv => whnf)
    | ((refine brK_of (fun h => ?_) (fun h => ?_)) <;> (have h2 := h; (try simp only [List.length_nil, not_t, not_f, lt_t, lt_f, le_t, le_f, eq_t, eq_f, us_len, is_len, bs_len, lenL_00, hw] at h2); conv => whnf))
    | (refine reqK_of ?_ ?_; (focus (first | decide | omega | assumption | (simp only [List.length_nil, not_t, not_f, lt_t, lt_f, le_t, le_f, eq_t, eq_f, us_len, is_len, bs_len, lenL_00, hw] <;> omega) | (simp [keyNew, sameKey, kEq] <;> omega))); conv => whnf)
    | (refine reqK_of ?_ ?_; rotate_left; (conv => whnf); rotate_left)
    | (refine nth_us ?_ ?_ ?_; (focus (first | omega | (simp only [List.length_nil, not_t, not_f, lt_t, lt_f, le_t, le_f, eq_t, eq_f, us_len, is_len, bs_len, lenL_00, hw] <;> omega))); (focus (first | omega | (simp only [List.length_nil, not_t, not_f, lt_t, lt_f, le_t, le_f, eq_t, eq_f, us_len, is_len, bs_len, lenL_00, hw] <;> omega))); conv => whnf)
    | (refine nth_is ?_ ?_ ?_; (focus (first | omega | (simp only [List.length_nil, not_t, not_f, lt_t, lt_f, le_t, le_f, eq_t, eq_f, us_len, is_len, bs_len, lenL_00, hw] <;> omega))); (focus (first | omega | (simp only [List.length_nil, not_t, not_f, lt_t, lt_f, le_t, le_f, eq_t, eq_f, us_len, is_len, bs_len, lenL_00, hw] <;> omega))); conv => whnf)
    | (refine nth_bs ?_ ?_ ?_; (focus (first | omega | (simp only [List.length_nil, not_t, not_f, lt_t, lt_f, le_t, le_f, eq_t, eq_f, us_len, is_len, bs_len, lenL_00, hw] <;> omega))); (focus (first | omega | (simp only [List.length_nil, not_t, not_f, lt_t, lt_f, le_t, le_f, eq_t, eq_f, us_len, is_len, bs_len, lenL_00, hw] <;> omega))); conv => whnf))
  · refine loopC (hC (k + 1) (by omega) (by omega)) ?_
    rw [layN_mid (by omega)]
    simp only [nums_us, hw]
    rw [Int.natCast_succ]
    simp only [setL, List.set_cons_zero, List.set_cons_succ]
  · refine loopC (hC (k + 1) (by omega) (by omega)) ?_
    rw [layN_last (by omega)]
    simp only [nums_us, hw]
    rw [Int.natCast_succ]
    simp only [setL, List.set_cons_zero, List.set_cons_succ]
  · simp only [nums_us]
    rw [layL_pos (by omega), show k = r.length by omega]
  · simp only [nums_us]
    rw [layL_neg (by omega), show k = r.length by omega]
theorem ok39_2 (xs : List T) (hd nx : Int) (hq : IsU xs ∧ Sz xs) : FnOk Try.prog tgl 39 [.list 1 xs, .int .i64 hd, .int .i64 nx, .nils] (.list 1 (us (layL (nums xs) hd nx []))) := by
  exact (ok39 xs hd nx [] ⟨hq, ⟨[], rfl, fun n h => by cases h⟩, Nat.zero_le _⟩).nil3
open Classical in
noncomputable def c39 : List T → Ans
  | [.list 1 xs, .int .i64 hd, .int .i64 nx, .list 1 ys] => .req ((IsU xs ∧ Sz xs) ∧ IsI ys ∧ Sz ys) (.list 1 (us (layL (nums xs) hd nx (nums ys))))
  | [.list 1 xs, .int .i64 hd, .int .i64 nx, .nils] => .req (IsU xs ∧ Sz xs) (.list 1 (us (layL (nums xs) hd nx [])))
  | _ => .no
theorem got39 {vs : List T} {x : T} (h : Got (c39 vs) x) : FnOk Try.prog tgl 39 vs x := by
  unfold c39 at h
  split at h
  · obtain ⟨hq, e⟩ := got_req h; rw [e]; exact ok39 _ _ _ _ hq
  · obtain ⟨hq, e⟩ := got_req h; rw [e]; exact ok39_2 _ _ _ hq
  · exact (got_no h).elim
theorem nogl39 (vs : List T) (p : Prop) (d : Decidable p) (sz : Nat) (xs : List T) (h : c39 vs = @Ans.gl p d sz xs) : False := by
  unfold c39 at h
  split at h <;> cases h
theorem pk39 (vs : List T) (p : Prop) (d : Decidable p) (x : T) (h : c39 vs = @Ans.pk p d x) (hp : p) : FnOk Try.prog tgl 39 vs x := by
  unfold c39 at h
  split at h
  · cases h
  · cases h
  · cases h
end Go.Nx
