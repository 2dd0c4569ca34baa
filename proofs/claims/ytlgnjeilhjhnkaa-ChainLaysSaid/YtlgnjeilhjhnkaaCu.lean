/-
  LAYS: walked.
-/
import Derived.Test.YtlgnjeilhjhnkaaCt
import Derived.Test.YtlgnjeilhjhnkaaCq
set_option linter.unusedVariables false
set_option linter.unusedSimpArgs false
set_option maxRecDepth 20000
set_option maxHeartbeats 4000000
namespace Go.Nx
open Go.RowKit Go.Proofs

def metN (ns : List Int) (x : Int) : Nat → Bool
  | 0 => false
  | k + 1 => metN ns x k || eqI (at0 ns k) x
theorem met_iff (ns : List Int) (x : Int) (k : Nat) (hk : k ≤ ns.length) : metN ns x k = true ↔ x ∈ ns.take k := by
  induction k with
  | zero => simp [metN]
  | succ k ih =>
    rw [metN, Bool.or_eq_true, ih (by omega), eq_t, List.take_add_one, List.mem_append]
    have hlt : k < ns.length := by omega
    simp [at0, hlt]
    constructor
    · rintro (h | h)
      · exact .inl h
      · exact .inr h.symm
    · rintro (h | h)
      · exact .inl h
      · exact .inr h.symm
theorem rep_us (n : Nat) : List.replicate n (T.int .u64 0) = us (List.replicate n 0) := by simp [us]
theorem numsZ : nums (subL (List.replicate (Int.toNat 30) (T.int .u64 0)) 0 none) = List.replicate 30 0 := by
  rw [subL_00]
  show nums (List.replicate 30 _) = _
  rw [rep_us, nums_us]
theorem numsN (ns : List Int) : nums (subL (is ns) 0 none) = ns := by rw [subL_00, nums_is]
theorem numsT (ns : List Int) (n : Nat) : nums (subL (is ns) 0 (some n)) = ns.take n := by
  show nums (((is ns).drop 0).take n) = _
  simp [is, nums, ← List.map_take, T.n, Function.comp_def]
theorem isT (ns : List Int) (n : Nat) : subL (is ns) 0 (some n) = is (ns.take n) := by
  show ((is ns).drop 0).take n = _
  simp [is, ← List.map_take]
theorem hZ : IsU (subL (List.replicate (Int.toNat 30) (T.int .u64 0)) 0 none) ∧ Sz (subL (List.replicate (Int.toNat 30) (T.int .u64 0)) 0 none) := by
  rw [subL_00]
  refine ⟨⟨List.replicate 30 0, rep_us 30, fun n hn => by simp at hn; subst hn; unfold R64; omega⟩, ?_⟩
  show Sz (List.replicate 30 (T.int .u64 0))
  unfold Sz maxBytes; simp
theorem ok7 (xs : List T) (b : Int) (hq : (IsB xs ∧ Szb xs) ∧ R8 b) : FnOk Try.prog tgl 7 [.list 1 xs, .int .u8 b] (.bool true) := by
  refine fn_ok (Γ := EB) env_EB Try.func7 low7 ?_
  obtain ⟨⟨⟨l, rfl, hl⟩, hs⟩, hb8⟩ := hq
  have hlen : l.length ≤ 140737488355328 := by unfold Szb maxBytes at hs; rw [bs_len] at hs; exact hs
  have hb' := hb8
  unfold R8 at hb'
  conv => whnf
  repeat' (first
    | (refine brK_true (by assumption) ?_; conv => whnf)
    | (refine brK_false (by assumption) ?_; conv => whnf)
    | (refine brK_true ?_ ?_; (focus (simp only [List.length_nil, not_t, not_f, lt_t, lt_f, le_t, le_f, eq_t, eq_f, us_len, is_len, bs_len, lenL_00] <;> omega)); conv => whnf)
    | (refine brK_false ?_ ?_; (focus (simp only [List.length_nil, not_t, not_f, lt_t, lt_f, le_t, le_f, eq_t, eq_f, us_len, is_len, bs_len, lenL_00] <;> omega)); conv => whnf)
    | ((refine brK_of (fun h => ?_) (fun h => ?_)) <;> (have h2 := h; (try simp only [List.length_nil, not_t, not_f, lt_t, lt_f, le_t, le_f, eq_t, eq_f, us_len, is_len, bs_len, lenL_00] at h2); conv => whnf))
    | (refine reqK_of ?_ ?_; (focus (first | decide | omega | assumption | (simp only [List.length_nil, not_t, not_f, lt_t, lt_f, le_t, le_f, eq_t, eq_f, us_len, is_len, bs_len, lenL_00] <;> omega) | (simp [keyNew, sameKey, kEq] <;> omega))); conv => whnf)
    | (refine reqK_of ?_ ?_; rotate_left; (conv => whnf); rotate_left)
    | (refine nth_us ?_ ?_ ?_; (focus (first | omega | (simp only [List.length_nil, not_t, not_f, lt_t, lt_f, le_t, le_f, eq_t, eq_f, us_len, is_len, bs_len, lenL_00] <;> omega))); (focus (first | omega | (simp only [List.length_nil, not_t, not_f, lt_t, lt_f, le_t, le_f, eq_t, eq_f, us_len, is_len, bs_len, lenL_00] <;> omega))); conv => whnf)
    | (refine nth_is ?_ ?_ ?_; (focus (first | omega | (simp only [List.length_nil, not_t, not_f, lt_t, lt_f, le_t, le_f, eq_t, eq_f, us_len, is_len, bs_len, lenL_00] <;> omega))); (focus (first | omega | (simp only [List.length_nil, not_t, not_f, lt_t, lt_f, le_t, le_f, eq_t, eq_f, us_len, is_len, bs_len, lenL_00] <;> omega))); conv => whnf)
    | (refine nth_bs ?_ ?_ ?_; (focus (first | omega | (simp only [List.length_nil, not_t, not_f, lt_t, lt_f, le_t, le_f, eq_t, eq_f, us_len, is_len, bs_len, lenL_00] <;> omega))); (focus (first | omega | (simp only [List.length_nil, not_t, not_f, lt_t, lt_f, le_t, le_f, eq_t, eq_f, us_len, is_len, bs_len, lenL_00] <;> omega))); conv => whnf))
  refine loopFn [.adopt 6 1001 1] (fun s => nzIf 113 s [.kill 8, .kill 9, .kill 10, .kill 16, .kill 17, .kill 18, .kill 19, .kill 20, .kill 21, .kill 22, .kill 23, .kill 24, .kill 25, .kill 26, .kill 27, .kill 28, .kill 29, .kill 30, .kill 31, .kill 32, .kill 33, .kill 34, .kill 35, .kill 36, .kill 37, .kill 38, .kill 39, .kill 40, .kill 41, .kill 42, .kill 43, .kill 44, .kill 45, .kill 46, .kill 47, .kill 48, .kill 49, .gc, .ren 113 1001] [.kill 8, .kill 9, .kill 10, .kill 16, .kill 17, .kill 18, .kill 19, .kill 20, .kill 21, .kill 22, .kill 23, .kill 24, .kill 25, .kill 26, .kill 27, .kill 28, .kill 29, .kill 30, .kill 31, .kill 32, .kill 33, .kill 34, .kill 35, .kill 36, .kill 37, .kill 38, .kill 39, .kill 40, .kill 41, .kill 42, .kill 43, .kill 44, .kill 45, .kill 46, .kill 47, .kill 48, .kill 49]) (fun k : Nat => [(6, .sl 1001 0 none), (7, .t (.int .i64 (k : Int)))]) (fun k => [(1001, .lst 1 (is (nodesN l k)) 1)]) (fun k => k ≤ l.length) (fun k => l.length - k) 0 (Nat.zero_le _) ?_
  conv => whnf
  refine ⟨⟨rfl, rfl⟩, fun k hk C hC => ?_⟩
  have hn := nodes_ok l k
  have hnl := hn.len
  have hw : IntKind.i64.wrap ((k : Int) + 1) = (k : Int) + 1 := wrap_i64 ⟨by omega, by omega⟩
  have wb : IntKind.i64.wrap b = b := w_id (by omega)
  have hsucc : nodesN l (k + 1) = if (1 + at0 l k % 20) ∈ nodesN l k then nodesN l k else nodesN l k ++ [1 + at0 l k % 20] := rfl
  generalize hns : nodesN l k = ns at hn hnl hsucc
  have hL : (layL (List.replicate 30 0) 3 5 ns).length = 30 := by unfold layL; rw [stL_len, layN_len]; simp
  have h3 : at0 (layL (List.replicate 30 0) 3 5 ns) 3 < 4294967296 := by
    rw [(layL_at (m := List.replicate 30 0) (by simp) hn).2]
    have := nxt_R hn 0; omega
  have hmin : 0 ≤ minI b ns.length ∧ minI b ns.length ≤ ns.length := by rw [minI_def]; split <;> omega
  have hE : eqL (listL (layL (List.replicate 30 0) 3 5 ns) 3 5 b) (ns.take (minI b ns.length).toNat) = true := by
    rw [list_lay hn (by omega)]
    have : (minI b ns.length).toNat = min b.toNat ns.length := by rw [minI_def]; split <;> omega
    rw [this, eqL_self]
  have hnd : nd (pk (IntKind.u64.wrap b) 7) = 7 := by unfold nd pk; omega
  have hLu : IsU (us (layL (List.replicate 30 0) 3 5 ns)) ∧ Sz (us (layL (List.replicate 30 0) 3 5 ns)) := layL_inv (fun n hn => by simp at hn; subst hn; unfold R64; omega) (by unfold Sz maxBytes; simp)
  have h57 : shrI .u64 (pk 5 7) 32 = 5 := by rw [shr32]; decide
  have hI : ∀ x ∈ ns, I64 x := fun x hx => by have := hn.r x hx; unfold I64; omega
  have hIt : IsI (is (ns.take (minI b ns.length).toNat)) := isI_is fun x hx => hI x (List.mem_of_mem_take hx)
  conv => whnf
  repeat' (first
    | (refine brK_true (by assumption) ?_; conv => whnf)
    | (refine brK_false (by assumption) ?_; conv => whnf)
    | (refine brK_true ?_ ?_; (focus (simp only [List.length_nil, not_t, not_f, lt_t, lt_f, le_t, le_f, eq_t, eq_f, us_len, is_len, bs_len, lenL_00, numsZ, numsN, numsT, wb, nums_us, nums_is] <;> omega)); conv => whnf)
    | (refine brK_false ?_ ?_; (focus (simp only [List.length_nil, not_t, not_f, lt_t, lt_f, le_t, le_f, eq_t, eq_f, us_len, is_len, bs_len, lenL_00, numsZ, numsN, numsT, wb, nums_us, nums_is] <;> omega)); conv => whnf)
    | ((refine brK_of (fun h => ?_) (fun h => ?_)) <;> (have h2 := h; (try simp only [List.length_nil, not_t, not_f, lt_t, lt_f, le_t, le_f, eq_t, eq_f, us_len, is_len, bs_len, lenL_00, numsZ, numsN, numsT, wb, nums_us, nums_is] at h2); conv => whnf))
    | (refine reqK_of ?_ ?_; (focus (first | decide | omega | assumption | (simp only [List.length_nil, not_t, not_f, lt_t, lt_f, le_t, le_f, eq_t, eq_f, us_len, is_len, bs_len, lenL_00, numsZ, numsN, numsT, wb, nums_us, nums_is] <;> omega) | (simp [keyNew, sameKey, kEq] <;> omega))); conv => whnf)
    | (refine reqK_of ?_ ?_; rotate_left; (conv => whnf); rotate_left)
    | (refine nth_us ?_ ?_ ?_; (focus (first | omega | (simp only [List.length_nil, not_t, not_f, lt_t, lt_f, le_t, le_f, eq_t, eq_f, us_len, is_len, bs_len, lenL_00, numsZ, numsN, numsT, wb, nums_us, nums_is] <;> omega))); (focus (first | omega | (simp only [List.length_nil, not_t, not_f, lt_t, lt_f, le_t, le_f, eq_t, eq_f, us_len, is_len, bs_len, lenL_00, numsZ, numsN, numsT, wb, nums_us, nums_is] <;> omega))); conv => whnf)
    | (refine nth_is ?_ ?_ ?_; (focus (first | omega | (simp only [List.length_nil, not_t, not_f, lt_t, lt_f, le_t, le_f, eq_t, eq_f, us_len, is_len, bs_len, lenL_00, numsZ, numsN, numsT, wb, nums_us, nums_is] <;> omega))); (focus (first | omega | (simp only [List.length_nil, not_t, not_f, lt_t, lt_f, le_t, le_f, eq_t, eq_f, us_len, is_len, bs_len, lenL_00, numsZ, numsN, numsT, wb, nums_us, nums_is] <;> omega))); conv => whnf)
    | (refine nth_bs ?_ ?_ ?_; (focus (first | omega | (simp only [List.length_nil, not_t, not_f, lt_t, lt_f, le_t, le_f, eq_t, eq_f, us_len, is_len, bs_len, lenL_00, numsZ, numsN, numsT, wb, nums_us, nums_is] <;> omega))); (focus (first | omega | (simp only [List.length_nil, not_t, not_f, lt_t, lt_f, le_t, le_f, eq_t, eq_f, us_len, is_len, bs_len, lenL_00, numsZ, numsN, numsT, wb, nums_us, nums_is] <;> omega))); conv => whnf))
  · have hb : R8 (at0 l k) := hl _ (at0_mem (by simp; omega))
    unfold R8 at hb
    have hx0 : IntKind.i64.wrap ((at0 l k).tmod 20) = at0 l k % 20 := by
      rw [Int.tmod_eq_emod_of_nonneg hb.1]; exact w_id (by omega)
    have hx : IntKind.i64.wrap (1 + IntKind.i64.wrap ((at0 l k).tmod 20)) = 1 + at0 l k % 20 := by
      rw [hx0]; exact w_id (by omega)
    rw [hx]
    generalize (1 + at0 l k % 20) = x at hsucc
    refine loopSet [] [.kill 29, .kill 30, .kill 31, .kill 32, .kill 33, .kill 34, .kill 35, .kill 36, .kill 37, .kill 38, .kill 39, .kill 40, .kill 41, .kill 42, .kill 43] (fun j : Nat => [(9, .t (.bool (metN ns x j))), (10, .t (.int .i64 (j : Int)))]) (fun _ => [(1001, .lst 1 (is ns) 1)]) (fun j => j ≤ ns.length) (fun j => ns.length - j) 0 (Nat.zero_le _) ?_
    conv => whnf
    refine ⟨⟨rfl, rfl⟩, fun j hj D hD => ?_⟩
    have hw2 : IntKind.i64.wrap ((j : Int) + 1) = (j : Int) + 1 := wrap_i64 ⟨by omega, by omega⟩
    conv => whnf
    repeat' (first
      | (refine brK_true (by assumption) ?_; conv => whnf)
      | (refine brK_false (by assumption) ?_; conv => whnf)
      | (refine brK_true ?_ ?_; (focus (simp only [List.length_nil, not_t, not_f, lt_t, lt_f, le_t, le_f, eq_t, eq_f, us_len, is_len, bs_len, lenL_00] <;> omega)); conv => whnf)
      | (refine brK_false ?_ ?_; (focus (simp only [List.length_nil, not_t, not_f, lt_t, lt_f, le_t, le_f, eq_t, eq_f, us_len, is_len, bs_len, lenL_00] <;> omega)); conv => whnf)
      | ((refine brK_of (fun h => ?_) (fun h => ?_)) <;> (have h2 := h; (try simp only [List.length_nil, not_t, not_f, lt_t, lt_f, le_t, le_f, eq_t, eq_f, us_len, is_len, bs_len, lenL_00] at h2); conv => whnf))
      | (refine reqK_of ?_ ?_; (focus (first | decide | omega | assumption | (simp only [List.length_nil, not_t, not_f, lt_t, lt_f, le_t, le_f, eq_t, eq_f, us_len, is_len, bs_len, lenL_00] <;> omega) | (simp [keyNew, sameKey, kEq] <;> omega))); conv => whnf)
      | (refine reqK_of ?_ ?_; rotate_left; (conv => whnf); rotate_left)
      | (refine nth_us ?_ ?_ ?_; (focus (first | omega | (simp only [List.length_nil, not_t, not_f, lt_t, lt_f, le_t, le_f, eq_t, eq_f, us_len, is_len, bs_len, lenL_00] <;> omega))); (focus (first | omega | (simp only [List.length_nil, not_t, not_f, lt_t, lt_f, le_t, le_f, eq_t, eq_f, us_len, is_len, bs_len, lenL_00] <;> omega))); conv => whnf)
      | (refine nth_is ?_ ?_ ?_; (focus (first | omega | (simp only [List.length_nil, not_t, not_f, lt_t, lt_f, le_t, le_f, eq_t, eq_f, us_len, is_len, bs_len, lenL_00] <;> omega))); (focus (first | omega | (simp only [List.length_nil, not_t, not_f, lt_t, lt_f, le_t, le_f, eq_t, eq_f, us_len, is_len, bs_len, lenL_00] <;> omega))); conv => whnf)
      | (refine nth_bs ?_ ?_ ?_; (focus (first | omega | (simp only [List.length_nil, not_t, not_f, lt_t, lt_f, le_t, le_f, eq_t, eq_f, us_len, is_len, bs_len, lenL_00] <;> omega))); (focus (first | omega | (simp only [List.length_nil, not_t, not_f, lt_t, lt_f, le_t, le_f, eq_t, eq_f, us_len, is_len, bs_len, lenL_00] <;> omega))); conv => whnf))
    · refine loopC (hD (j + 1) (by omega) (by omega)) ?_
      rw [hw2, Int.natCast_succ, show metN ns x (j + 1) = true by rw [metN, h2]; rfl]
      rfl
    · refine loopC (hD (j + 1) (by omega) (by omega)) ?_
      rw [hw2, Int.natCast_succ, show metN ns x (j + 1) = eqI (at0 ns j) x by rw [metN, h2, Bool.false_or]]
      rfl
    · simp [maxBytes]; omega
    · have ej : j = ns.length := by omega
      have hx' : x ∉ ns := fun hm => by
        have := (met_iff ns x j (by omega)).2 (by rw [ej, List.take_length]; exact hm)
        rw [this] at h2; cases h2
      rw [if_neg hx'] at hsucc
      refine loopC (hC (k + 1) (by omega) (by omega)) ?_
      rw [hw, Int.natCast_succ, hsucc, ← is_snoc]
      rfl
    · have ej : j = ns.length := by omega
      have hx' : x ∈ ns := by
        have := (met_iff ns x j (by omega)).1 h2
        exact List.mem_of_mem_take this
      rw [if_pos hx'] at hsucc
      refine loopC (hC (k + 1) (by omega) (by omega)) ?_
      rw [hw, Int.natCast_succ, hsucc]
      rfl
  · rw [subL_00]
    rw [subL_00]
    exact ⟨by have := hZ; rw [subL_00] at this; exact this, isI_is hI, by unfold Sz maxBytes; rw [is_len]; omega⟩
  · rw [isT]
    simp only [numsZ, numsN, nums_us, wb, lenL_00, is_len]
    exact ⟨listL_inv _ _ _ _, hIt⟩
  · rw [h57, eqI_self]
open Classical in
noncomputable def c7 : List T → Ans
  | [.list 1 xs, .int .u8 b] => .req ((IsB xs ∧ Szb xs) ∧ R8 b) (.bool true)
  | _ => .no
theorem got7 {vs : List T} {x : T} (h : Got (c7 vs) x) : FnOk Try.prog tgl 7 vs x := by
  unfold c7 at h
  split at h
  · obtain ⟨hq, e⟩ := got_req h; rw [e]; exact ok7 _ _ hq
  · exact (got_no h).elim
theorem nogl7 (vs : List T) (p : Prop) (sz : Nat) (xs : List T) (h : c7 vs = .gl p sz xs) : False := by
  unfold c7 at h
  split at h <;> cases h
end Go.Nx
