/-
  SETS: TURNS, FIRST.
-/
import Derived.Test.YtpmpkcjcjccboaaDoorSg
import Derived.Test.YtpmpkcjcjccboaaDoorSo
set_option linter.unusedVariables false
set_option linter.unusedSimpArgs false
set_option maxRecDepth 20000
set_option maxHeartbeats 4000000
namespace Go.Nx
open Go.RowKit Go.Proofs

theorem turn_a {o : Int} (h : 0 ≤ o ∧ o < 256) : 1 ≤ IntKind.i64.wrap (1 + IntKind.i64.wrap (o.tmod 64)) ∧ IntKind.i64.wrap (1 + IntKind.i64.wrap (o.tmod 64)) ≤ 64 := by
  have e : o.tmod 64 = o % 64 := Int.tmod_eq_emod_of_nonneg h.1
  have e1 : IntKind.i64.wrap (o % 64) = o % 64 := wrap_i64 ⟨by omega, by omega⟩
  rw [e, e1, wrap_i64 ⟨by omega, by omega⟩]
  omega
noncomputable def lE3 : List (Nat × (List T → Ans)) := (9, c9) :: lE2
noncomputable def iE3 : List (Nat × Pt) := iE2
noncomputable abbrev E3 : Env := En tgl lE3 iE3
theorem env_E3 : EnvOk Tryd.prog E3 := (env_fn env_E2 (fun _ _ => got9) (fun vs p d sz xs h _ => (nogl9 vs p d sz xs h).elim) pk9)
theorem ok4 (s o p : Int) (hq : (R64 s ∧ (0 ≤ o ∧ o < 256)) ∧ (0 ≤ p ∧ p < 256)) : FnOk Tryd.prog tgl 4 [.int .u64 s, .int .u8 o, .int .u8 p] (.bool true) := by
  refine fn_ok (Γ := E3) env_E3 Tryd.func4 low4 ?_
  obtain ⟨⟨hs, ho⟩, hp⟩ := hq
  obtain ⟨b, rfl⟩ := exists_iv hs
  have ha := turn_a ho
  have hp' := turn_a hp
  conv => whnf
  repeat' (first
    | (refine brK_true rfl ?_; conv => whnf)
    | (refine brK_false rfl ?_; conv => whnf)
    | (refine brK_true (by assumption) ?_; conv => whnf)
    | (refine brK_false (by assumption) ?_; conv => whnf)
    | (refine brK_true ?_ ?_; (focus (simp only [List.length_nil, fx] <;> omega)); conv => whnf)
    | (refine brK_false ?_ ?_; (focus (simp only [List.length_nil, fx] <;> omega)); conv => whnf)
    | ((refine brK_of (fun h => ?_) (fun h => ?_)) <;> (have h2 := h; (try simp only [List.length_nil, fx] at h2); conv => whnf))
    | (refine reqK_of ?_ ?_; (focus (first | decide | omega | assumption | (simp only [List.length_nil, fx] <;> omega) | (simp [keyNew, sameKey, kEq] <;> omega))); conv => whnf)
    | (refine reqK_of ?_ ?_; rotate_left; (conv => whnf); rotate_left)
    | (refine nth_us ?_ ?_ ?_; (focus (first | omega | (simp only [List.length_nil, fx] <;> omega))); (focus (first | omega | (simp only [List.length_nil, fx] <;> omega))); conv => whnf)
    | (refine nth_is ?_ ?_ ?_; (focus (first | omega | (simp only [List.length_nil, fx] <;> omega))); (focus (first | omega | (simp only [List.length_nil, fx] <;> omega))); conv => whnf)
    | (refine nth_bs ?_ ?_ ?_; (focus (first | omega | (simp only [List.length_nil, fx] <;> omega))); (focus (first | omega | (simp only [List.length_nil, fx] <;> omega))); conv => whnf))
  all_goals clear hs ho hp
  all_goals try simp only [bv_iv, iv_inj, eqI_iv, eqB_def] at *
  all_goals try generalize IntKind.i64.wrap (1 + IntKind.i64.wrap (o.tmod 64)) = a at *
  all_goals try generalize IntKind.i64.wrap (1 + IntKind.i64.wrap (p.tmod 64)) = q at *
  all_goals try exact R_iv _
  all_goals
    have f1 := has_add_self (b := b) ha
    have f2 := has_del_self (b := b) ha
    have f3 : a ≠ q → has (add b a) q = has b q := has_add_ne
    have f4 : a ≠ q → has (del b a) q = has b q := has_del_ne
    have f5 := del_add b a
    have f6 := add_del b a
    have f7 : ((lsL (add b a)).length : Int) = IntKind.i64.wrap (((lsL (del b a)).length : Int) + 1) := by
      have h7 := ls_add_del (b := b) ha
      have h8 := lsL_len (add b a)
      rw [wrap_i64 ⟨by omega, by omega⟩]; omega
    have f8 := add_or_del b ha
    clear ha hp'
    first
      | (clear f8; simp_all; done)
      | (refine congrArg T.bool ?_
         rcases f8 with f8 | f8
         · exact absurd (congrArg iv f8) (by assumption)
         · exact beq_iff_eq.2 f8)
open Classical in
noncomputable def c4 : List T → Ans
  | [.int .u64 s, .int .u8 o, .int .u8 p] => .req ((R64 s ∧ (0 ≤ o ∧ o < 256)) ∧ (0 ≤ p ∧ p < 256)) (.bool true)
  | _ => .no
theorem got4 {vs : List T} {x : T} (h : Got (c4 vs) x) : FnOk Tryd.prog tgl 4 vs x := by
  unfold c4 at h
  split at h
  · obtain ⟨hq, e⟩ := got_req h; rw [e]; exact ok4 _ _ _ hq
  · exact (got_no h).elim
theorem nogl4 (vs : List T) (p : Prop) (d : Decidable p) (sz : Nat) (xs : List T) (h : c4 vs = @Ans.gl p d sz xs) : False := by
  unfold c4 at h
  split at h <;> cases h
theorem pk4 (vs : List T) (p : Prop) (d : Decidable p) (x : T) (h : c4 vs = @Ans.pk p d x) (hp : p) : FnOk Tryd.prog tgl 4 vs x := by
  unfold c4 at h
  split at h
  · cases h
  · cases h
end Go.Nx
