/-
  BAGS: SUM, REPEAT.
-/
import Derived.Test.YtommbfigioeghaaBc
import Derived.Test.YtommbfigioeghaaEs1
set_option linter.unusedVariables false
set_option linter.unusedSimpArgs false
set_option maxRecDepth 20000
set_option maxHeartbeats 4000000
namespace Go.Nx
open Go.RowKit Go.Proofs

theorem ok81 (x y : Int) (hq : R64 x ∧ R64 y) : FnOk Try.prog tgl 81 [.int .u64 x, .int .u64 y] (.tup [.int .u64 (x * y / 18446744073709551616), .int .u64 (x * y % 18446744073709551616)]) := by
  obtain ⟨hx, hy⟩ := hq
  unfold R64 at hx hy
  obtain ⟨a, rfl⟩ := Int.eq_ofNat_of_zero_le hx.1
  obtain ⟨b, rfl⟩ := Int.eq_ofNat_of_zero_le hy.1
  refine fnOk_of (enter_low Try.func81 low81) fun S w args hsz hrel => ?_
  have e1 := RelT.int_of (hrel 0 _ (args[0]'(by simp at hsz; omega)) rfl (by simp))
  have e2 := RelT.int_of (hrel 1 _ (args[1]'(by simp at hsz; omega)) rfl (by simp))
  have e : args = #[.int .u64 a, .int .u64 b] := by
    apply Array.ext
    · simpa using hsz
    · intro i h1 h2
      simp at h2
      rcases (show i = 0 ∨ i = 1 by omega) with rfl | rfl
      · simpa using e1
      · simpa using e2
  rw [e]
  refine (Try.bits_Mul a b (by omega) (by omega) w).mono ?_
  rintro e w' ⟨rfl, rfl⟩
  refine ⟨_, rfl, rfl, .tup _ _ rfl fun i c v hc hv => ?_⟩
  match i with
  | 0 => simp at hc hv; subst hc hv; simpa using RelT.int (S := S) (w := w') .u64 _
  | 1 => simp at hc hv; subst hc hv; simpa using RelT.int (S := S) (w := w') .u64 _
  | i + 2 => simp at hc
open Classical in
noncomputable def c81 : List T → Ans
  | [.int .u64 x, .int .u64 y] => .req (R64 x ∧ R64 y) (.tup [.int .u64 (x * y / 18446744073709551616), .int .u64 (x * y % 18446744073709551616)])
  | _ => .no
theorem got81 {vs : List T} {x : T} (h : Got (c81 vs) x) : FnOk Try.prog tgl 81 vs x := by
  unfold c81 at h
  split at h
  · obtain ⟨hq, e⟩ := got_req h; rw [e]; exact ok81 _ _ hq
  · exact (got_no h).elim
theorem nogl81 (vs : List T) (p : Prop) (d : Decidable p) (sz : Nat) (xs : List T) (h : c81 vs = @Ans.gl p d sz xs) : False := by
  unfold c81 at h
  split at h <;> cases h
theorem pk81 (vs : List T) (p : Prop) (d : Decidable p) (x : T) (h : c81 vs = @Ans.pk p d x) (hp : p) : FnOk Try.prog tgl 81 vs x := by
  unfold c81 at h
  split at h
  · cases h
  · cases h
noncomputable def lB5 : List (Nat × (List T → Ans)) := (58, c58) :: (81, c81) :: lB4
noncomputable def iB5 : List (Nat × Pt) := iB4
noncomputable abbrev B5 : Env := En tgl lB5 iB5
theorem env_B5 : EnvOk Try.prog B5 := (env_fn (env_fn env_B4 (fun _ _ => got81) (fun vs p d sz xs h _ => (nogl81 vs p d sz xs h).elim) pk81) (fun _ _ => got58) (fun vs p d sz xs h _ => (nogl58 vs p d sz xs h).elim) pk58)
theorem ok30 (xs ys : List T) (hq : (IsI xs ∧ IsI ys) ∧ (xs.length + ys.length) * 8 ≤ maxBytes) : FnOk Try.prog tgl 30 [.list 1 xs, .list 1 ys] (.list 1 (is (srt (nums xs ++ nums ys)))) := by
  refine fn_ok (Γ := B5) env_B5 Try.func30 low30 ?_
  have hq' := hq
  obtain ⟨⟨⟨l, rfl, hl⟩, ⟨r, rfl, hr⟩⟩, hs⟩ := hq
  have hq2 : IsI (is l ++ is r) ∧ SzB (is l ++ is r) := by
    rw [is_app]
    refine ⟨isI_is fun n hn => ?_, ?_⟩
    · rcases List.mem_append.1 hn with h | h
      · exact hl n h
      · exact hr n h
    · unfold SzB; rw [is_len, List.length_append]; rw [is_len, is_len] at hs; exact hs
  conv => whnf
  repeat' (first
    | (refine brK_true rfl ?_; conv => whnf)
    | (refine brK_false rfl ?_; conv => whnf)
    | (refine brK_true (by assumption) ?_; conv => whnf)
    | (refine brK_false (by assumption) ?_; conv => whnf)
    | (refine brK_true ?_ ?_; (focus (simp only [List.length_nil, fx] <;> omega)); conv => whnf)
    | (refine brK_false ?_ ?_; (focus (simp only [List.length_nil, fx] <;> omega)); conv => whnf)
    | ((refine brK_of (fun h => ?_) (fun h => ?_)) <;> (have h2 := h; (try simp only [List.length_nil, fx] at h2); conv => whnf))
    | (refine reqK_of ?_ ?_; (focus (first | decide | omega | assumption | (simp only [List.length_nil, fx] <;> omega) | (simp [keyNew, sameKey, kEq] <;> omega))); conv => whnf)
    | (refine reqK_of ?_ ?_; rotate_left; (conv => whnf); rotate_left)
    | (refine nth_us ?_ ?_ ?_; (focus (first | omega | (simp only [List.length_nil, fx] <;> omega))); (focus (first | omega | (simp only [List.length_nil, fx] <;> omega))); conv => whnf)
    | (refine nth_is ?_ ?_ ?_; (focus (first | omega | (simp only [List.length_nil, fx] <;> omega))); (focus (first | omega | (simp only [List.length_nil, fx] <;> omega))); conv => whnf)
    | (refine nth_bs ?_ ?_ ?_; (focus (first | omega | (simp only [List.length_nil, fx] <;> omega))); (focus (first | omega | (simp only [List.length_nil, fx] <;> omega))); conv => whnf))
  rw [is_app, nums_is, nums_is, nums_is]
open Classical in
noncomputable def c30 : List T → Ans
  | [.list 1 xs, .list 1 ys] => .req ((IsI xs ∧ IsI ys) ∧ (xs.length + ys.length) * 8 ≤ maxBytes) (.list 1 (is (srt (nums xs ++ nums ys))))
  | _ => .no
theorem got30 {vs : List T} {x : T} (h : Got (c30 vs) x) : FnOk Try.prog tgl 30 vs x := by
  unfold c30 at h
  split at h
  · obtain ⟨hq, e⟩ := got_req h; rw [e]; exact ok30 _ _ hq
  · exact (got_no h).elim
theorem nogl30 (vs : List T) (p : Prop) (d : Decidable p) (sz : Nat) (xs : List T) (h : c30 vs = @Ans.gl p d sz xs) : False := by
  unfold c30 at h
  split at h <;> cases h
theorem pk30 (vs : List T) (p : Prop) (d : Decidable p) (x : T) (h : c30 vs = @Ans.pk p d x) (hp : p) : FnOk Try.prog tgl 30 vs x := by
  unfold c30 at h
  split at h
  · cases h
  · cases h
/-- so many copied -/
def repN (o : Int) (n c : Nat) : List Int := List.replicate c o ++ List.replicate (n - c) 0
theorem repN_len (o : Int) {n c : Nat} (h : c ≤ n) : (repN o n c).length = n := by simp [repN]; omega
theorem minI_nat (a b : Nat) : minI (a : Int) (b : Int) = ((min a b : Nat) : Int) := by
  rw [minI_def, Nat.min_def]; split <;> split <;> omega
theorem rep_first (o : Int) (n : Nat) : putL (List.replicate n (T.int .i64 0)) 0 (List.take n [T.int .i64 o]) = is (repN o n (min 1 n)) := by
  cases n with
  | zero => rfl
  | succ n =>
    have : min 1 (n + 1) = 1 := by omega
    rw [this]
    simp [putL, repN, is, List.replicate_succ]
theorem rep_step (o : Int) {n c : Nat} (h : c ≤ n) : putL (is (repN o n c)) c (List.take (n - c) (List.take c (is (repN o n c)))) = is (repN o n (c + min c (n - c))) := by
  have e1 : List.take c (repN o n c) = List.replicate c o := by
    unfold repN
    rw [List.take_append_of_le_length (by simp)]
    simp
  have e2 : is (repN o n c) = (repN o n c).map (T.int .i64) := rfl
  unfold putL
  rw [e2, ← List.map_take, ← List.map_take, ← List.map_drop, e1, List.take_replicate, ← List.map_append, ← List.map_append]
  congr 1
  rw [List.length_map, List.length_replicate]
  have e3 : List.drop (c + min (n - c) c) (repN o n c) = List.replicate (n - c - min (n - c) c) 0 := by
    unfold repN
    rw [List.drop_append]
    simp
  rw [e3]
  unfold repN
  rw [← List.append_assoc, List.replicate_append_replicate]
  congr 2 <;> omega
theorem ok56 (o n : Int) (hq : 0 ≤ n ∧ n ≤ 1000) : FnOk Try.prog tgl 56 [.list 1 [.int .i64 o], .int .i64 n] (.list 1 (is (List.replicate n.toNat o))) := by
  refine fn_ok (Γ := B5) env_B5 Try.func56 low56 ?_
  obtain ⟨h0, h1⟩ := hq
  have hu : IntKind.u64.wrap n = n := wrap_u64 (by unfold R64; omega)
  have hi : IntKind.i64.wrap n = n := wrap_i64 ⟨by omega, by omega⟩
  have hu1 : IntKind.u64.wrap ((([T.int .i64 o] : List T).length : Nat) : Int) = 1 := by
    show IntKind.u64.wrap 1 = 1
    exact wrap_u64 (by unfold R64; omega)
  have hd : (1 * n) / 18446744073709551616 = 0 := by omega
  have hm : (1 * n) % 18446744073709551616 = n := by omega
  have hq1 : R64 (IntKind.u64.wrap ((([T.int .i64 o] : List T).length : Nat) : Int)) ∧ R64 (IntKind.u64.wrap n) := by rw [hu1, hu]; unfold R64; omega
  have hlo : IntKind.u64.wrap ((([T.int .i64 o] : List T).length : Nat) : Int) * IntKind.u64.wrap n % 18446744073709551616 = n := by rw [hu1, hu, hm]
  have hhi : IntKind.u64.wrap ((([T.int .i64 o] : List T).length : Nat) : Int) * IntKind.u64.wrap n / 18446744073709551616 = 0 := by rw [hu1, hu, hd]
  conv => whnf
  repeat' (first
    | (refine brK_true rfl ?_; conv => whnf)
    | (refine brK_false rfl ?_; conv => whnf)
    | (refine brK_true (by assumption) ?_; conv => whnf)
    | (refine brK_false (by assumption) ?_; conv => whnf)
    | (refine brK_true ?_ ?_; (focus (simp only [List.length_nil, fx, hlo, hhi, hi] <;> omega)); conv => whnf)
    | (refine brK_false ?_ ?_; (focus (simp only [List.length_nil, fx, hlo, hhi, hi] <;> omega)); conv => whnf)
    | ((refine brK_of (fun h => ?_) (fun h => ?_)) <;> (have h2 := h; (try simp only [List.length_nil, fx, hlo, hhi, hi] at h2); conv => whnf))
    | (refine reqK_of ?_ ?_; (focus (first | decide | omega | assumption | (simp only [List.length_nil, fx, hlo, hhi, hi] <;> omega) | (simp [keyNew, sameKey, kEq] <;> omega))); conv => whnf)
    | (refine reqK_of ?_ ?_; rotate_left; (conv => whnf); rotate_left)
    | (refine nth_us ?_ ?_ ?_; (focus (first | omega | (simp only [List.length_nil, fx, hlo, hhi, hi] <;> omega))); (focus (first | omega | (simp only [List.length_nil, fx, hlo, hhi, hi] <;> omega))); conv => whnf)
    | (refine nth_is ?_ ?_ ?_; (focus (first | omega | (simp only [List.length_nil, fx, hlo, hhi, hi] <;> omega))); (focus (first | omega | (simp only [List.length_nil, fx, hlo, hhi, hi] <;> omega))); conv => whnf)
    | (refine nth_bs ?_ ?_ ?_; (focus (first | omega | (simp only [List.length_nil, fx, hlo, hhi, hi] <;> omega))); (focus (first | omega | (simp only [List.length_nil, fx, hlo, hhi, hi] <;> omega))); conv => whnf))
  · rw [hlo, hi]; unfold maxBytes; omega
  obtain ⟨N, hN⟩ : ∃ N : Nat, N = n.toNat := ⟨_, rfl⟩
  have hnN : n = (N : Int) := by omega
  have hLz : lenL (List.replicate N (T.int .i64 0)) 0 none = (N : Int) := by show ((List.replicate N (T.int .i64 0)).length : Int) = _; simp
  have hL1 : minI ((([T.int .i64 o] : List T).length : Nat) : Int) (N : Int) = ((min 1 N : Nat) : Int) := minI_nat 1 N
  rw [hlo, hi, ← hN, hLz, hL1, Int.toNat_natCast, rep_first]
  refine loopFn [] (fun s => [.kill 34, .kill 35, .kill 36, .kill 37, .kill 38, .kill 39, .kill 40, .kill 41, .kill 42, .kill 43, .kill 44, .kill 45, .kill 46]) (fun c : Nat => [(8, .t (.int .i64 (c : Int)))]) (fun c => [(94, .lst 1 (is (repN o N c)) 0)]) (fun c => c ≤ N ∧ (c = 0 → N = 0)) (fun c => N - c) (min 1 N) ⟨by omega, by omega⟩ ?_
  conv => whnf
  refine ⟨⟨rfl, rfl⟩, fun c hc C hC => ?_⟩
  obtain ⟨hc1, hc2⟩ := hc
  have hrl := repN_len o hc1
  have hoff : Nat.add 0 (c : Int).toNat = c := by simp
  have hlen : lenL (is (repN o N c)) (Nat.add 0 (c : Int).toNat) none = ((N - c : Nat) : Int) := by
    rw [hoff, lenL_eq]; simp only; rw [is_len, hrl]; omega
  have hsub : subL (is (repN o N c)) 0 (some (c : Int).toNat) = List.take c (is (repN o N c)) := by simp [subL]
  have htl : (List.take c (is (repN o N c))).length = c := by rw [List.length_take, is_len, hrl]; omega
  have hA : putL (is (repN o N c)) (Nat.add 0 (c : Int).toNat) (List.take (lenL (is (repN o N c)) (Nat.add 0 (c : Int).toNat) none).toNat (subL (is (repN o N c)) 0 (some (c : Int).toNat))) = is (repN o N (c + min c (N - c))) := by
    rw [hlen, hsub, hoff, Int.toNat_natCast]; exact rep_step o hc1
  have hB : IntKind.i64.wrap ((c : Int) + minI ((subL (is (repN o N c)) 0 (some (c : Int).toNat)).length : Nat) (lenL (is (repN o N c)) (Nat.add 0 (c : Int).toNat) none)) = ((c + min c (N - c) : Nat) : Int) := by
    rw [hlen, hsub, htl, minI_nat, ← Int.natCast_add]; exact wrap_i64 ⟨by omega, by omega⟩
  conv => whnf
  repeat' (first
    | (refine brK_true rfl ?_; conv => whnf)
    | (refine brK_false rfl ?_; conv => whnf)
    | (refine brK_true (by assumption) ?_; conv => whnf)
    | (refine brK_false (by assumption) ?_; conv => whnf)
    | (refine brK_true ?_ ?_; (focus (simp only [List.length_nil, fx, hrl, hlen, hsub, hoff] <;> omega)); conv => whnf)
    | (refine brK_false ?_ ?_; (focus (simp only [List.length_nil, fx, hrl, hlen, hsub, hoff] <;> omega)); conv => whnf)
    | ((refine brK_of (fun h => ?_) (fun h => ?_)) <;> (have h2 := h; (try simp only [List.length_nil, fx, hrl, hlen, hsub, hoff] at h2); conv => whnf))
    | (refine reqK_of ?_ ?_; (focus (first | decide | omega | assumption | (simp only [List.length_nil, fx, hrl, hlen, hsub, hoff] <;> omega) | (simp [keyNew, sameKey, kEq] <;> omega))); conv => whnf)
    | (refine reqK_of ?_ ?_; rotate_left; (conv => whnf); rotate_left)
    | (refine nth_us ?_ ?_ ?_; (focus (first | omega | (simp only [List.length_nil, fx, hrl, hlen, hsub, hoff] <;> omega))); (focus (first | omega | (simp only [List.length_nil, fx, hrl, hlen, hsub, hoff] <;> omega))); conv => whnf)
    | (refine nth_is ?_ ?_ ?_; (focus (first | omega | (simp only [List.length_nil, fx, hrl, hlen, hsub, hoff] <;> omega))); (focus (first | omega | (simp only [List.length_nil, fx, hrl, hlen, hsub, hoff] <;> omega))); conv => whnf)
    | (refine nth_bs ?_ ?_ ?_; (focus (first | omega | (simp only [List.length_nil, fx, hrl, hlen, hsub, hoff] <;> omega))); (focus (first | omega | (simp only [List.length_nil, fx, hrl, hlen, hsub, hoff] <;> omega))); conv => whnf))
  · refine loopC (hC (c + min c (N - c)) (by omega) (by omega)) ?_
    rw [hB, hA]
    rfl
  · have : c = N := by omega
    subst this
    rw [subL_00]
    simp [repN]
open Classical in
noncomputable def c56 : List T → Ans
  | [.list 1 [.int .i64 o], .int .i64 n] => .req (0 ≤ n ∧ n ≤ 1000) (.list 1 (is (List.replicate n.toNat o)))
  | _ => .no
theorem got56 {vs : List T} {x : T} (h : Got (c56 vs) x) : FnOk Try.prog tgl 56 vs x := by
  unfold c56 at h
  split at h
  · obtain ⟨hq, e⟩ := got_req h; rw [e]; exact ok56 _ _ hq
  · exact (got_no h).elim
theorem nogl56 (vs : List T) (p : Prop) (d : Decidable p) (sz : Nat) (xs : List T) (h : c56 vs = @Ans.gl p d sz xs) : False := by
  unfold c56 at h
  split at h <;> cases h
theorem pk56 (vs : List T) (p : Prop) (d : Decidable p) (x : T) (h : c56 vs = @Ans.pk p d x) (hp : p) : FnOk Try.prog tgl 56 vs x := by
  unfold c56 at h
  split at h
  · cases h
  · cases h
end Go.Nx
