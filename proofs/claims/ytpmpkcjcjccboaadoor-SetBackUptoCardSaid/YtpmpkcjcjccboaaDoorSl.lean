/-
  SETS: OF, UNDER, LISTS.
-/
import Derived.Test.YtpmpkcjcjccboaaDoorSg
import Derived.Test.YtpmpkcjcjccboaaDoorSo
set_option linter.unusedVariables false
set_option linter.unusedSimpArgs false
set_option maxRecDepth 20000
set_option maxHeartbeats 4000000
namespace Go.Nx
open Go.RowKit Go.Proofs

def Sz (xs : List T) : Prop := xs.length * 8 ≤ maxBytes
theorem ofL_take {l : List Int} {k : Nat} (h : k < l.length) : ofL (l.take (k + 1)) = add (ofL (l.take k)) (at0 l k) := by
  have e : l[k]? = some (at0 l k) := by simp [at0, h]
  rw [List.take_add_one, e]
  exact ofL_snoc _ _
theorem ok20 (xs : List T) (hq : IsI xs ∧ Sz xs) : FnOk Tryd.prog tgl 20 [.list 1 xs] (.int .u64 (iv (ofL (nums xs)))) := by
  refine fn_ok (Γ := E2) env_E2 Tryd.func20 low20 ?_
  obtain ⟨⟨l, rfl, hl⟩, hs⟩ := hq
  rw [nums_is]
  have hlen : l.length ≤ 140737488355328 := by unfold Sz maxBytes at hs; rw [is_len] at hs; omega
  conv => whnf
  repeat' (first
    | (refine brK_true rfl ?_; conv => whnf)
    | (refine brK_false rfl ?_; conv => whnf)
    | (refine brK_true (by assumption) ?_; conv => whnf)
    | (refine brK_false (by assumption) ?_; conv => whnf)
    | (refine brK_true ?_ ?_; (focus (simp only [List.length_nil, fx] <;> omega)); conv => whnf)
    | (refine brK_false ?_ ?_; (focus (simp only [List.length_nil, fx] <;> omega)); conv => whnf)
    | ((refine brK_of (fun h => ?_) (fun h => ?_)) <;> (have h2 := h; (try simp only [List.length_nil, fx] at h2); conv => whnf))
    | (refine reqK_of ?_ ?_; (focus (first | decide | omega | assumption | (simp only [List.length_nil, fx] <;> omega) | (simp [keyNew, sameKey, kEq] <;> omega))); conv => whnf)
    | (refine reqK_of ?_ ?_; rotate_left; (conv => whnf); rotate_left)
    | (refine nth_us ?_ ?_ ?_; (focus (first | omega | (simp only [List.length_nil, fx] <;> omega))); (focus (first | omega | (simp only [List.length_nil, fx] <;> omega))); conv => whnf)
    | (refine nth_is ?_ ?_ ?_; (focus (first | omega | (simp only [List.length_nil, fx] <;> omega))); (focus (first | omega | (simp only [List.length_nil, fx] <;> omega))); conv => whnf)
    | (refine nth_bs ?_ ?_ ?_; (focus (first | omega | (simp only [List.length_nil, fx] <;> omega))); (focus (first | omega | (simp only [List.length_nil, fx] <;> omega))); conv => whnf))
  refine loopUp [] [.kill 5, .kill 9, .kill 10, .kill 11, .kill 12, .kill 13, .kill 14, .kill 15] (fun k : Nat => [(3, .t (.int .u64 (iv (ofL (l.take k))))), (8, .t (.int .i64 (k : Int)))]) (fun _ => []) (fun k => k ≤ l.length) (fun k => l.length - k) 0 (Nat.zero_le _) ?_
  conv => whnf
  refine ⟨⟨rfl, rfl⟩, fun k hk C hC => ?_⟩
  have hw : IntKind.i64.wrap ((k : Int) + 1) = (k : Int) + 1 := wrap_i64 ⟨by omega, by omega⟩
  have hR := R_iv (ofL (l.take k))
  conv => whnf
  repeat' (first
    | (refine brK_true rfl ?_; conv => whnf)
    | (refine brK_false rfl ?_; conv => whnf)
    | (refine brK_true (by assumption) ?_; conv => whnf)
    | (refine brK_false (by assumption) ?_; conv => whnf)
    | (refine brK_true ?_ ?_; (focus (simp only [List.length_nil, fx] <;> omega)); conv => whnf)
    | (refine brK_false ?_ ?_; (focus (simp only [List.length_nil, fx] <;> omega)); conv => whnf)
    | ((refine brK_of (fun h => ?_) (fun h => ?_)) <;> (have h2 := h; (try simp only [List.length_nil, fx] at h2); conv => whnf))
    | (refine reqK_of ?_ ?_; (focus (first | decide | omega | assumption | (simp only [List.length_nil, fx] <;> omega) | (simp [keyNew, sameKey, kEq] <;> omega))); conv => whnf)
    | (refine reqK_of ?_ ?_; rotate_left; (conv => whnf); rotate_left)
    | (refine nth_us ?_ ?_ ?_; (focus (first | omega | (simp only [List.length_nil, fx] <;> omega))); (focus (first | omega | (simp only [List.length_nil, fx] <;> omega))); conv => whnf)
    | (refine nth_is ?_ ?_ ?_; (focus (first | omega | (simp only [List.length_nil, fx] <;> omega))); (focus (first | omega | (simp only [List.length_nil, fx] <;> omega))); conv => whnf)
    | (refine nth_bs ?_ ?_ ?_; (focus (first | omega | (simp only [List.length_nil, fx] <;> omega))); (focus (first | omega | (simp only [List.length_nil, fx] <;> omega))); conv => whnf))
  · refine loopC (hC (k + 1) (by omega) (by omega)) ?_
    rw [hw, bv_iv, ← ofL_take (by omega), Int.natCast_succ]
    rfl
  · rw [List.take_of_length_le (by omega)]
open Classical in
noncomputable def c20 : List T → Ans
  | [.list 1 xs] => .req (IsI xs ∧ Sz xs) (.int .u64 (iv (ofL (nums xs))))
  | _ => .no
theorem got20 {vs : List T} {x : T} (h : Got (c20 vs) x) : FnOk Tryd.prog tgl 20 vs x := by
  unfold c20 at h
  split at h
  · obtain ⟨hq, e⟩ := got_req h; rw [e]; exact ok20 _ hq
  · exact (got_no h).elim
theorem nogl20 (vs : List T) (p : Prop) (d : Decidable p) (sz : Nat) (xs : List T) (h : c20 vs = @Ans.gl p d sz xs) : False := by
  unfold c20 at h
  split at h <;> cases h
theorem pk20 (vs : List T) (p : Prop) (d : Decidable p) (x : T) (h : c20 vs = @Ans.pk p d x) (hp : p) : FnOk Tryd.prog tgl 20 vs x := by
  unfold c20 at h
  split at h
  · cases h
  · cases h
theorem turn_u {o : Int} (h : 0 ≤ o ∧ o < 256) : 1 ≤ IntKind.i64.wrap (1 + IntKind.i64.wrap (o.tmod 64)) ∧ IntKind.i64.wrap (1 + IntKind.i64.wrap (o.tmod 64)) ≤ 64 := by
  have e : o.tmod 64 = o % 64 := Int.tmod_eq_emod_of_nonneg h.1
  have e1 : IntKind.i64.wrap (o % 64) = o % 64 := wrap_i64 ⟨by omega, by omega⟩
  rw [e, e1, wrap_i64 ⟨by omega, by omega⟩]
  omega
theorem under_len {a b : B} (h : under a b = true) : (lsL a).length ≤ (lsL b).length :=
  nodup_len (lsL_nodup _) fun x hx => mem_lsL.2 (under_iff.1 h x (mem_lsL.1 hx))
theorem has_join (a b : B) (o : Int) : has (ofL (lsL a ++ lsL b)) o = (has a o || has b o) := by
  rw [has_ofL]
  cases h : obj o
  · rw [has_obj h, has_obj h]; rfl
  · rw [Bool.true_and, Bool.eq_iff_iff]
    simp [mem_lsL]
theorem under_count (a b : B) : under a b = decide ((lsL (ofL (lsL a ++ lsL b))).length = (lsL b).length) := by
  rw [Bool.eq_iff_iff, decide_eq_true_eq]
  constructor
  · intro h
    have e : ofL (lsL a ++ lsL b) = b := ext_has fun o h1 h2 => by
      rw [has_join]
      have := under_iff.1 h o
      cases h3 : has a o
      · simp
      · rw [this h3]; rfl
    rw [e]
  · intro h
    refine under_iff.2 fun o ho => ?_
    cases hb : has b o
    · exfalso
      have hr := has_range ho
      have h1 := ls_perm (has_add_self (b := b) hr) hb fun p hp => has_add_ne (Ne.symm hp)
      have h2 : under (add b o) (ofL (lsL a ++ lsL b)) = true := under_iff.2 fun p hp => by
        rw [has_join]
        by_cases e : p = o
        · subst e; rw [ho]; rfl
        · rw [has_add_ne (Ne.symm e)] at hp; rw [hp]; simp
      have h3 := under_len h2
      omega
    · rfl
theorem under_fin (a b : B) : T.bool (under a b == eqI ((lsL (ofL (nums (is (lsL a) ++ is (lsL b))))).length : Int) ((lsL b).length : Int)) = T.bool true := by
  rw [is_app, nums_is, eqI_def, under_count]
  by_cases h : (lsL (ofL (lsL a ++ lsL b))).length = (lsL b).length
  · have e : (((lsL (ofL (lsL a ++ lsL b))).length : Int) == ((lsL b).length : Int)) = true := beq_iff_eq.2 (congrArg Int.ofNat h)
    rw [decide_eq_true h, e]; rfl
  · have e : (((lsL (ofL (lsL a ++ lsL b))).length : Int) == ((lsL b).length : Int)) = false := beq_eq_false_iff_ne.2 fun e => h (Int.ofNat_inj.1 e)
    rw [decide_eq_false h, e]; rfl
theorem isI_ls (s : B) : ∀ n ∈ lsL s, I64 n := fun n hn => by have := has_range (mem_lsL.1 hn); unfold I64; omega
noncomputable def lE4 : List (Nat × (List T → Ans)) := (9, c9) :: (23, c23) :: (20, c20) :: lE2
noncomputable def iE4 : List (Nat × Pt) := iE2
noncomputable abbrev E4 : Env := En tgl lE4 iE4
theorem env_E4 : EnvOk Tryd.prog E4 := (env_fn (env_fn (env_fn env_E2 (fun _ _ => got20) (fun vs p d sz xs h _ => (nogl20 vs p d sz xs h).elim) pk20) (fun _ _ => got23) gl23 pk23) (fun _ _ => got9) (fun vs p d sz xs h _ => (nogl9 vs p d sz xs h).elim) pk9)
theorem ok6 (a b c o : Int) (hq : (R64 a ∧ R64 b) ∧ R64 c ∧ (0 ≤ o ∧ o < 256)) : FnOk Tryd.prog tgl 6 [.int .u64 a, .int .u64 b, .int .u64 c, .int .u8 o] (.bool true) := by
  refine fn_ok (Γ := E4) env_E4 Tryd.func6 low6 ?_
  obtain ⟨⟨ha, hb⟩, hc, ho⟩ := hq
  obtain ⟨a, rfl⟩ := exists_iv ha
  obtain ⟨b, rfl⟩ := exists_iv hb
  obtain ⟨c, rfl⟩ := exists_iv hc
  have hla := lsL_len a
  have hlb := lsL_len b
  have hx := turn_u ho
  clear ha hb hc ho
  conv => whnf
  repeat' (first
    | (refine brK_true rfl ?_; conv => whnf)
    | (refine brK_false rfl ?_; conv => whnf)
    | (refine brK_true (by assumption) ?_; conv => whnf)
    | (refine brK_false (by assumption) ?_; conv => whnf)
    | (refine brK_true ?_ ?_; (focus (simp only [List.length_nil, fx] <;> omega)); conv => whnf)
    | (refine brK_false ?_ ?_; (focus (simp only [List.length_nil, fx] <;> omega)); conv => whnf)
    | ((refine brK_of (fun h => ?_) (fun h => ?_)) <;> (have h2 := h; (try simp only [List.length_nil, fx] at h2); conv => whnf))
    | (refine reqK_of ?_ ?_; (focus (first | decide | omega | assumption | (simp only [List.length_nil, fx] <;> omega) | (simp [keyNew, sameKey, kEq] <;> omega))); conv => whnf)
    | (refine reqK_of ?_ ?_; rotate_left; (conv => whnf); rotate_left)
    | (refine nth_us ?_ ?_ ?_; (focus (first | omega | (simp only [List.length_nil, fx] <;> omega))); (focus (first | omega | (simp only [List.length_nil, fx] <;> omega))); conv => whnf)
    | (refine nth_is ?_ ?_ ?_; (focus (first | omega | (simp only [List.length_nil, fx] <;> omega))); (focus (first | omega | (simp only [List.length_nil, fx] <;> omega))); conv => whnf)
    | (refine nth_bs ?_ ?_ ?_; (focus (first | omega | (simp only [List.length_nil, fx] <;> omega))); (focus (first | omega | (simp only [List.length_nil, fx] <;> omega))); conv => whnf))
  all_goals try exact R_iv _
  all_goals try simp only [bv_iv, iv_inj, eqI_iv, eqB_def, subL_00] at *
  all_goals try generalize IntKind.i64.wrap (1 + IntKind.i64.wrap (o.tmod 64)) = x at *
  all_goals
    have u1 : under a a = true := under_iff.2 fun _ h => h
    have u2 : under a b = true → (under b a == (a == b)) = true := fun h => by
      rw [beq_iff_eq, Bool.eq_iff_iff, beq_iff_eq]
      refine ⟨fun h2 => ext_has fun o _ _ => ?_, fun e => by rw [e]; exact under_iff.2 fun _ h => h⟩
      rw [Bool.eq_iff_iff]; exact ⟨under_iff.1 h o, under_iff.1 h2 o⟩
    have u3 : under a b = true → under b c = true → under a c = true := fun h h2 => under_iff.2 fun o ho => under_iff.1 h2 o (under_iff.1 h o ho)
    have u4 : under (del a x) a = true := under_iff.2 fun o ho => by rw [has_del, Bool.and_eq_true] at ho; exact ho.1
    have u5 : under a (first 64) = true := under_iff.2 fun o ho => by
      have := has_range ho
      rw [has_first, obj_iff.2 this, Bool.true_and]; exact decide_eq_true this.2
    have u6 : under (bv 0) a = true := under_iff.2 fun o ho => by rw [show bv 0 = 0 from rfl, has_zero] at ho; cases ho
    have u7 : under a b = true → leI ((lsL a).length : Int) ((lsL b).length : Int) = true := fun h => by rw [leI_def]; exact decide_eq_true (Int.ofNat_le.2 (under_len h))
    have u8 := under_count a b
    clear hx
    first
      | (rw [is_len, is_len]; unfold maxBytes; omega)
      | (refine ⟨?_, ?_⟩
         · rw [is_app]; exact isI_is fun n hn => (List.mem_append.1 hn).elim (isI_ls a n) (isI_ls b n)
         · unfold Sz maxBytes; rw [List.length_append, is_len, is_len]; omega)
      | (clear u8; simp_all; done)
      | exact under_fin a b
open Classical in
noncomputable def c6 : List T → Ans
  | [.int .u64 a, .int .u64 b, .int .u64 c, .int .u8 o] => .req ((R64 a ∧ R64 b) ∧ R64 c ∧ (0 ≤ o ∧ o < 256)) (.bool true)
  | _ => .no
theorem got6 {vs : List T} {x : T} (h : Got (c6 vs) x) : FnOk Tryd.prog tgl 6 vs x := by
  unfold c6 at h
  split at h
  · obtain ⟨hq, e⟩ := got_req h; rw [e]; exact ok6 _ _ _ _ hq
  · exact (got_no h).elim
theorem nogl6 (vs : List T) (p : Prop) (d : Decidable p) (sz : Nat) (xs : List T) (h : c6 vs = @Ans.gl p d sz xs) : False := by
  unfold c6 at h
  split at h <;> cases h
theorem pk6 (vs : List T) (p : Prop) (d : Decidable p) (x : T) (h : c6 vs = @Ans.pk p d x) (hp : p) : FnOk Tryd.prog tgl 6 vs x := by
  unfold c6 at h
  split at h
  · cases h
  · cases h
end Go.Nx
