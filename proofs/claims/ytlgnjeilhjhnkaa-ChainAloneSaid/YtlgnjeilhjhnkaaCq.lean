/-
  VERSIONS; WHO STOPS: walked.
-/
import Derived.Test.YtlgnjeilhjhnkaaCp
set_option linter.unusedVariables false
set_option linter.unusedSimpArgs false
set_option maxRecDepth 20000
set_option maxHeartbeats 4000000
namespace Go.Nx
open Go.RowKit Go.Proofs

def pt26 : Pt := fun base args own R => ∃ w b, args = [.ptr 1001 0, .t (.int .u8 b)] ∧ own = ownW w ∧ R8 b ∧ WOk w ∧ R (.t (.tup [])) (ownW (stepW w b))
theorem pt26_ok {base : Nat} {args : List V} {own : Own} {R : V → Own → Prop} (h : pt26 base args own R) : FnV Try.prog tgl 26 args own R := by
  obtain ⟨w, b, rfl, rfl, hb, hw, hR⟩ := h
  exact inl_ok env_EB Try.func26 low26 (inl26 (base := base) hb hw hR)
theorem env_pt {P : Program} {gl : Nat → Option (List T)} {l : List (Nat × (List T → Ans))} {il : List (Nat × Pt)} {n : Nat} {g : Pt} (h : EnvOk P (En gl l il)) (hg : ∀ base args own R, g base args own R → FnV P gl n args own R) : EnvOk P (En gl l ((n, g) :: il)) := by
  refine ⟨h.fn, h.gl, fun f base args own R hi hR => ?_⟩
  have hR' : ptL ((n, g) :: il) f base args own R := hR
  have hi' : isL ((n, g) :: il) f = true := hi
  simp only [ptL] at hR'
  simp only [isL] at hi'
  cases e : Nat.beq n f with
  | true =>
    rw [e] at hR'
    rw [← Nat.eq_of_beq_eq_true e]
    exact hg base args own R hR'
  | false =>
    rw [e] at hR' hi'
    exact h.pt f base args own R hi' hR'
noncomputable def iEW : List (Nat × Pt) := (26, pt26) :: (25, pt25) :: iEB
noncomputable abbrev EW : Env := En tgl lEB iEW
theorem env_EW : EnvOk Try.prog EW := env_pt (env_pt env_EB fun _ _ _ _ => pt25_ok) fun _ _ _ _ => pt26_ok
def wN (l : List Int) : Nat → Wd
  | 0 => wd0
  | k + 1 => stepW (wN l k) (at0 l k)
theorem inv0 : Inv wd0 0 := by
  refine ⟨?_, rfl, rfl, rfl, ?_, ?_, by decide, by decide⟩
  · intro v hv
    simp [wd0] at hv
    unfold R64; omega
  · intro c hc
    simp [wd0] at hc
    subst hc
    exact ⟨by unfold R64; simp, fun h => by simp at h, by simp, fun h => by simp at h, fun h => by simp at h⟩
  · intro x hx
    simp [wd0] at hx
    omega
theorem wN_inv {l : List Int} (hl : ∀ n ∈ l, R8 n) {k : Nat} (hk : k ≤ 400) (hkl : k ≤ l.length) : Inv (wN l k) k := by
  induction k with
  | zero => exact inv0
  | succ k ih => exact inv_step (hl _ (at0_mem (by simp; omega))) (ih (by omega) (by omega)) (by omega)
theorem Inv.wok {w : Wd} {n : Nat} (h : Inv w n) : WOk w := ⟨⟨h.m, by unfold Sz maxBytes; rw [us_len, h.ml]; decide⟩, h.who, h.has⟩
def Szb (xs : List T) : Prop := xs.length ≤ maxBytes
theorem ok4 (xs : List T) (hq : IsB xs ∧ Szb xs) : FnOk Try.prog tgl 4 [.list 1 xs] (.bool true) := by
  refine fn_ok (Γ := EW) env_EW Try.func4 low4 ?_
  obtain ⟨⟨l, rfl, hl⟩, hs⟩ := hq
  have hlen : l.length ≤ 140737488355328 := by unfold Szb maxBytes at hs; rw [bs_len] at hs; exact hs
  conv => whnf
  repeat' (first
    | (refine brK_true (by assumption) ?_; conv => whnf)
    | (refine brK_false (by assumption) ?_; conv => whnf)
    | (refine brK_true ?_ ?_; (focus (simp only [List.length_nil, not_t, not_f, lt_t, lt_f, le_t, le_f, eq_t, eq_f, us_len, is_len, bs_len, lenL_00] <;> omega)); conv => whnf)
    | (refine brK_false ?_ ?_; (focus (simp only [List.length_nil, not_t, not_f, lt_t, lt_f, le_t, le_f, eq_t, eq_f, us_len, is_len, bs_len, lenL_00] <;> omega)); conv => whnf)
    | ((refine brK_of (fun h => ?_) (fun h => ?_)) <;> (have h2 := h; (try simp only [List.length_nil, not_t, not_f, lt_t, lt_f, le_t, le_f, eq_t, eq_f, us_len, is_len, bs_len, lenL_00] at h2); conv => whnf))
    | (refine reqK_of ?_ ?_; (focus (first | decide | omega | assumption | (simp only [List.length_nil, not_t, not_f, lt_t, lt_f, le_t, le_f, eq_t, eq_f, us_len, is_len, bs_len, lenL_00] <;> omega) | (simp [keyNew, sameKey, kEq] <;> omega))); conv => whnf)
    | (refine reqK_of ?_ ?_; rotate_left; (conv => whnf); rotate_left)
    | (refine nth_us ?_ ?_ ?_; (focus (first | omega | (simp only [List.length_nil, not_t, not_f, lt_t, lt_f, le_t, le_f, eq_t, eq_f, us_len, is_len, bs_len, lenL_00] <;> omega))); (focus (first | omega | (simp only [List.length_nil, not_t, not_f, lt_t, lt_f, le_t, le_f, eq_t, eq_f, us_len, is_len, bs_len, lenL_00] <;> omega))); conv => whnf)
    | (refine nth_is ?_ ?_ ?_; (focus (first | omega | (simp only [List.length_nil, not_t, not_f, lt_t, lt_f, le_t, le_f, eq_t, eq_f, us_len, is_len, bs_len, lenL_00] <;> omega))); (focus (first | omega | (simp only [List.length_nil, not_t, not_f, lt_t, lt_f, le_t, le_f, eq_t, eq_f, us_len, is_len, bs_len, lenL_00] <;> omega))); conv => whnf)
    | (refine nth_bs ?_ ?_ ?_; (focus (first | omega | (simp only [List.length_nil, not_t, not_f, lt_t, lt_f, le_t, le_f, eq_t, eq_f, us_len, is_len, bs_len, lenL_00] <;> omega))); (focus (first | omega | (simp only [List.length_nil, not_t, not_f, lt_t, lt_f, le_t, le_f, eq_t, eq_f, us_len, is_len, bs_len, lenL_00] <;> omega))); conv => whnf))
  refine ⟨rfl, rfl, ?_⟩
  conv => whnf
  repeat' (first
    | (refine brK_true (by assumption) ?_; conv => whnf)
    | (refine brK_false (by assumption) ?_; conv => whnf)
    | (refine brK_true ?_ ?_; (focus (simp only [List.length_nil, not_t, not_f, lt_t, lt_f, le_t, le_f, eq_t, eq_f, us_len, is_len, bs_len, lenL_00] <;> omega)); conv => whnf)
    | (refine brK_false ?_ ?_; (focus (simp only [List.length_nil, not_t, not_f, lt_t, lt_f, le_t, le_f, eq_t, eq_f, us_len, is_len, bs_len, lenL_00] <;> omega)); conv => whnf)
    | ((refine brK_of (fun h => ?_) (fun h => ?_)) <;> (have h2 := h; (try simp only [List.length_nil, not_t, not_f, lt_t, lt_f, le_t, le_f, eq_t, eq_f, us_len, is_len, bs_len, lenL_00] at h2); conv => whnf))
    | (refine reqK_of ?_ ?_; (focus (first | decide | omega | assumption | (simp only [List.length_nil, not_t, not_f, lt_t, lt_f, le_t, le_f, eq_t, eq_f, us_len, is_len, bs_len, lenL_00] <;> omega) | (simp [keyNew, sameKey, kEq] <;> omega))); conv => whnf)
    | (refine reqK_of ?_ ?_; rotate_left; (conv => whnf); rotate_left)
    | (refine nth_us ?_ ?_ ?_; (focus (first | omega | (simp only [List.length_nil, not_t, not_f, lt_t, lt_f, le_t, le_f, eq_t, eq_f, us_len, is_len, bs_len, lenL_00] <;> omega))); (focus (first | omega | (simp only [List.length_nil, not_t, not_f, lt_t, lt_f, le_t, le_f, eq_t, eq_f, us_len, is_len, bs_len, lenL_00] <;> omega))); conv => whnf)
    | (refine nth_is ?_ ?_ ?_; (focus (first | omega | (simp only [List.length_nil, not_t, not_f, lt_t, lt_f, le_t, le_f, eq_t, eq_f, us_len, is_len, bs_len, lenL_00] <;> omega))); (focus (first | omega | (simp only [List.length_nil, not_t, not_f, lt_t, lt_f, le_t, le_f, eq_t, eq_f, us_len, is_len, bs_len, lenL_00] <;> omega))); conv => whnf)
    | (refine nth_bs ?_ ?_ ?_; (focus (first | omega | (simp only [List.length_nil, not_t, not_f, lt_t, lt_f, le_t, le_f, eq_t, eq_f, us_len, is_len, bs_len, lenL_00] <;> omega))); (focus (first | omega | (simp only [List.length_nil, not_t, not_f, lt_t, lt_f, le_t, le_f, eq_t, eq_f, us_len, is_len, bs_len, lenL_00] <;> omega))); conv => whnf))
  refine loopSet [.kill 9, .ren 68 1001, .ren 1000000000000000000000000000013 1002, .ren 1000000000000000000000000000012 1003] [.kill 10, .kill 11, .kill 12, .kill 13, .kill 14, .kill 15, .kill 16, .kill 17, .kill 18, .kill 19, .kill 20, .kill 21, .kill 22, .kill 23, .kill 24, .kill 25, .kill 26, .kill 27, .kill 28, .kill 29, .kill 30, .kill 31, .kill 32, .kill 33, .kill 34, .kill 35, .kill 36, .kill 37, .kill 38, .kill 39, .kill 40, .kill 41, .kill 42, .kill 43, .kill 44, .kill 45] (fun k : Nat => [(5, .t (.int .i64 (k : Int)))]) (fun k => ownW (wN l k)) (fun k => k ≤ l.length ∧ k ≤ 300) (fun k => l.length - k) 0 ⟨Nat.zero_le _, by omega⟩ ?_
  conv => whnf
  refine ⟨⟨rfl, rfl⟩, fun k hk C hC => ?_⟩
  obtain ⟨hk1, hk2⟩ := hk
  conv => whnf
  repeat' (first
    | (refine brK_true (by assumption) ?_; conv => whnf)
    | (refine brK_false (by assumption) ?_; conv => whnf)
    | (refine brK_true ?_ ?_; (focus (simp only [List.length_nil, not_t, not_f, lt_t, lt_f, le_t, le_f, eq_t, eq_f, us_len, is_len, bs_len, lenL_00] <;> omega)); conv => whnf)
    | (refine brK_false ?_ ?_; (focus (simp only [List.length_nil, not_t, not_f, lt_t, lt_f, le_t, le_f, eq_t, eq_f, us_len, is_len, bs_len, lenL_00] <;> omega)); conv => whnf)
    | ((refine brK_of (fun h => ?_) (fun h => ?_)) <;> (have h2 := h; (try simp only [List.length_nil, not_t, not_f, lt_t, lt_f, le_t, le_f, eq_t, eq_f, us_len, is_len, bs_len, lenL_00] at h2); conv => whnf))
    | (refine reqK_of ?_ ?_; (focus (first | decide | omega | assumption | (simp only [List.length_nil, not_t, not_f, lt_t, lt_f, le_t, le_f, eq_t, eq_f, us_len, is_len, bs_len, lenL_00] <;> omega) | (simp [keyNew, sameKey, kEq] <;> omega))); conv => whnf)
    | (refine reqK_of ?_ ?_; rotate_left; (conv => whnf); rotate_left)
    | (refine nth_us ?_ ?_ ?_; (focus (first | omega | (simp only [List.length_nil, not_t, not_f, lt_t, lt_f, le_t, le_f, eq_t, eq_f, us_len, is_len, bs_len, lenL_00] <;> omega))); (focus (first | omega | (simp only [List.length_nil, not_t, not_f, lt_t, lt_f, le_t, le_f, eq_t, eq_f, us_len, is_len, bs_len, lenL_00] <;> omega))); conv => whnf)
    | (refine nth_is ?_ ?_ ?_; (focus (first | omega | (simp only [List.length_nil, not_t, not_f, lt_t, lt_f, le_t, le_f, eq_t, eq_f, us_len, is_len, bs_len, lenL_00] <;> omega))); (focus (first | omega | (simp only [List.length_nil, not_t, not_f, lt_t, lt_f, le_t, le_f, eq_t, eq_f, us_len, is_len, bs_len, lenL_00] <;> omega))); conv => whnf)
    | (refine nth_bs ?_ ?_ ?_; (focus (first | omega | (simp only [List.length_nil, not_t, not_f, lt_t, lt_f, le_t, le_f, eq_t, eq_f, us_len, is_len, bs_len, lenL_00] <;> omega))); (focus (first | omega | (simp only [List.length_nil, not_t, not_f, lt_t, lt_f, le_t, le_f, eq_t, eq_f, us_len, is_len, bs_len, lenL_00] <;> omega))); conv => whnf))
  · rename_i hlt
    have hlt' : k < l.length ∧ k < 300 := by omega
    have hb : R8 (at0 l k) := hl _ (at0_mem (by simp; omega))
    have hi := wN_inv hl (k := k) (by omega) hk1
    have hi2 := wN_inv hl (k := k + 1) (by omega) (by omega)
    refine ⟨wN l k, at0 l k, rfl, rfl, hb, hi.wok, ?_⟩
    have e : stepW (wN l k) (at0 l k) = wN l (k + 1) := rfl
    rw [e]
    have hm := hi2.ml
    have hv := hi2.v
    have hn := hi2.n
    have h0 := at0R hi2.m 0
    have h1 := at0R hi2.m 1
    have hsw : IntKind.u64.wrap (wN l (k + 1)).swap = (wN l (k + 1)).swap := wrap_u64 ⟨by omega, by omega⟩
    have hsum : IntKind.u64.wrap (shrI .u64 (at0 (wN l (k + 1)).m 0) 32 + shrI .u64 (at0 (wN l (k + 1)).m 1) 32) = (wN l (k + 1)).swap := by
      rw [shr32, shr32, ← hv]
      unfold R64 at h0 h1
      exact wrap_u64 ⟨by omega, by omega⟩
    have hw : IntKind.i64.wrap ((k : Int) + 1) = (k : Int) + 1 := wrap_i64 ⟨by omega, by omega⟩
    conv => whnf
    repeat' (first
      | (refine brK_true (by assumption) ?_; conv => whnf)
      | (refine brK_false (by assumption) ?_; conv => whnf)
      | (refine brK_true ?_ ?_; (focus (simp only [List.length_nil, not_t, not_f, lt_t, lt_f, le_t, le_f, eq_t, eq_f, us_len, is_len, bs_len, lenL_00, hsw, hsum] <;> omega)); conv => whnf)
      | (refine brK_false ?_ ?_; (focus (simp only [List.length_nil, not_t, not_f, lt_t, lt_f, le_t, le_f, eq_t, eq_f, us_len, is_len, bs_len, lenL_00, hsw, hsum] <;> omega)); conv => whnf)
      | ((refine brK_of (fun h => ?_) (fun h => ?_)) <;> (have h2 := h; (try simp only [List.length_nil, not_t, not_f, lt_t, lt_f, le_t, le_f, eq_t, eq_f, us_len, is_len, bs_len, lenL_00, hsw, hsum] at h2); conv => whnf))
      | (refine reqK_of ?_ ?_; (focus (first | decide | omega | assumption | (simp only [List.length_nil, not_t, not_f, lt_t, lt_f, le_t, le_f, eq_t, eq_f, us_len, is_len, bs_len, lenL_00, hsw, hsum] <;> omega) | (simp [keyNew, sameKey, kEq] <;> omega))); conv => whnf)
      | (refine reqK_of ?_ ?_; rotate_left; (conv => whnf); rotate_left)
      | (refine nth_us ?_ ?_ ?_; (focus (first | omega | (simp only [List.length_nil, not_t, not_f, lt_t, lt_f, le_t, le_f, eq_t, eq_f, us_len, is_len, bs_len, lenL_00, hsw, hsum] <;> omega))); (focus (first | omega | (simp only [List.length_nil, not_t, not_f, lt_t, lt_f, le_t, le_f, eq_t, eq_f, us_len, is_len, bs_len, lenL_00, hsw, hsum] <;> omega))); conv => whnf)
      | (refine nth_is ?_ ?_ ?_; (focus (first | omega | (simp only [List.length_nil, not_t, not_f, lt_t, lt_f, le_t, le_f, eq_t, eq_f, us_len, is_len, bs_len, lenL_00, hsw, hsum] <;> omega))); (focus (first | omega | (simp only [List.length_nil, not_t, not_f, lt_t, lt_f, le_t, le_f, eq_t, eq_f, us_len, is_len, bs_len, lenL_00, hsw, hsum] <;> omega))); conv => whnf)
      | (refine nth_bs ?_ ?_ ?_; (focus (first | omega | (simp only [List.length_nil, not_t, not_f, lt_t, lt_f, le_t, le_f, eq_t, eq_f, us_len, is_len, bs_len, lenL_00, hsw, hsum] <;> omega))); (focus (first | omega | (simp only [List.length_nil, not_t, not_f, lt_t, lt_f, le_t, le_f, eq_t, eq_f, us_len, is_len, bs_len, lenL_00, hsw, hsum] <;> omega))); conv => whnf))
    refine loopC (hC (k + 1) ⟨by omega, by omega⟩ (by omega)) ?_
    rw [hw, Int.natCast_succ]
    rfl
  all_goals trace_state
open Classical in
noncomputable def c4 : List T → Ans
  | [.list 1 xs] => .req (IsB xs ∧ Szb xs) (.bool true)
  | _ => .no
theorem got4 {vs : List T} {x : T} (h : Got (c4 vs) x) : FnOk Try.prog tgl 4 vs x := by
  unfold c4 at h
  split at h
  · obtain ⟨hq, e⟩ := got_req h; rw [e]; exact ok4 _ hq
  · exact (got_no h).elim
theorem nogl4 (vs : List T) (p : Prop) (sz : Nat) (xs : List T) (h : c4 vs = .gl p sz xs) : False := by
  unfold c4 at h
  split at h <;> cases h
end Go.Nx
