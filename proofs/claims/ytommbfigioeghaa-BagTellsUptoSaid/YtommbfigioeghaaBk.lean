/-
  BAGS: ONCE.
-/
import Derived.Test.YtommbfigioeghaaBg
import Derived.Test.YtommbfigioeghaaYb
set_option linter.unusedVariables false
set_option linter.unusedSimpArgs false
set_option maxRecDepth 20000
set_option maxHeartbeats 4000000
namespace Go.Nx
open Go.RowKit Go.Proofs

def bitI (o : Int) : Int := if 1 ≤ o ∧ o ≤ 64 then shlI .u64 1 (o - 1) else 0
theorem ok91 (o : Int) : FnOk Try.prog tgl 91 [.int .i64 o] (.int .u64 (bitI o)) := by
  refine fn_ok (Γ := B0) env_B0 Try.func91 low91 ?_
  conv => whnf
  repeat' (first
    | (refine brK_true rfl ?_; conv => whnf)
    | (refine brK_false rfl ?_; conv => whnf)
    | (refine brK_true (by assumption) ?_; conv => whnf)
    | (refine brK_false (by assumption) ?_; conv => whnf)
    | (refine brK_true ?_ ?_; (focus (simp only [List.length_nil, fx] <;> omega)); conv => whnf)
    | (refine brK_false ?_ ?_; (focus (simp only [List.length_nil, fx] <;> omega)); conv => whnf)
    | ((refine brK_of (fun h => ?_) (fun h => ?_)) <;> (have h2 := h; (try simp only [List.length_nil, fx] at h2); conv => whnf))
    | (refine reqK_of ?_ ?_; (focus (first | decide | omega | assumption | (simp only [List.length_nil, fx] <;> omega) | (simp [keyNew, sameKey, kEq] <;> omega))); conv => whnf)
    | (refine reqK_of ?_ ?_; rotate_left; (conv => whnf); rotate_left)
    | (refine nth_us ?_ ?_ ?_; (focus (first | omega | (simp only [List.length_nil, fx] <;> omega))); (focus (first | omega | (simp only [List.length_nil, fx] <;> omega))); conv => whnf)
    | (refine nth_is ?_ ?_ ?_; (focus (first | omega | (simp only [List.length_nil, fx] <;> omega))); (focus (first | omega | (simp only [List.length_nil, fx] <;> omega))); conv => whnf)
    | (refine nth_bs ?_ ?_ ?_; (focus (first | omega | (simp only [List.length_nil, fx] <;> omega))); (focus (first | omega | (simp only [List.length_nil, fx] <;> omega))); conv => whnf))
  · unfold bitI; rw [if_neg (by omega)]
  · unfold bitI; rw [if_neg (by omega)]
  · have hw : IntKind.i64.wrap (o - 1) = o - 1 := wrap_i64 ⟨by omega, by omega⟩
    rw [hw]; omega
  · have hw : IntKind.i64.wrap (o - 1) = o - 1 := wrap_i64 ⟨by omega, by omega⟩
    rw [hw]
    unfold bitI; rw [if_pos (by omega)]
open Classical in
noncomputable def c91 : List T → Ans
  | [.int .i64 o] => .yes (.int .u64 (bitI o))
  | _ => .no
theorem got91 {vs : List T} {x : T} (h : Got (c91 vs) x) : FnOk Try.prog tgl 91 vs x := by
  unfold c91 at h
  split at h
  · rw [got_yes h]; exact ok91 _
  · exact (got_no h).elim
theorem nogl91 (vs : List T) (p : Prop) (d : Decidable p) (sz : Nat) (xs : List T) (h : c91 vs = @Ans.gl p d sz xs) : False := by
  unfold c91 at h
  split at h <;> cases h
theorem pk91 (vs : List T) (p : Prop) (d : Decidable p) (x : T) (h : c91 vs = @Ans.pk p d x) (hp : p) : FnOk Try.prog tgl 91 vs x := by
  unfold c91 at h
  split at h
  · cases h
  · cases h
noncomputable def lO1 : List (Nat × (List T → Ans)) := (91, c91) :: lB5
noncomputable def iO1 : List (Nat × Pt) := iB5
noncomputable abbrev O1 : Env := En tgl lO1 iO1
theorem env_O1 : EnvOk Try.prog O1 := (env_fn env_B5 (fun _ _ => got91) (fun vs p d sz xs h _ => (nogl91 vs p d sz xs h).elim) pk91)
theorem ok78 (s o : Int) : FnOk Try.prog tgl 78 [.int .u64 s, .int .i64 o] (.int .u64 (orI .u64 s (bitI o))) := by
  refine fn_ok (Γ := O1) env_O1 Try.func78 low78 ?_
  conv => whnf
  repeat' (first
    | (refine brK_true rfl ?_; conv => whnf)
    | (refine brK_false rfl ?_; conv => whnf)
    | (refine brK_true (by assumption) ?_; conv => whnf)
    | (refine brK_false (by assumption) ?_; conv => whnf)
    | (refine brK_true ?_ ?_; (focus (simp only [List.length_nil, fx] <;> omega)); conv => whnf)
    | (refine brK_false ?_ ?_; (focus (simp only [List.length_nil, fx] <;> omega)); conv => whnf)
    | ((refine brK_of (fun h => ?_) (fun h => ?_)) <;> (have h2 := h; (try simp only [List.length_nil, fx] at h2); conv => whnf))
    | (refine reqK_of ?_ ?_; (focus (first | decide | omega | assumption | (simp only [List.length_nil, fx] <;> omega) | (simp [keyNew, sameKey, kEq] <;> omega))); conv => whnf)
    | (refine reqK_of ?_ ?_; rotate_left; (conv => whnf); rotate_left)
    | (refine nth_us ?_ ?_ ?_; (focus (first | omega | (simp only [List.length_nil, fx] <;> omega))); (focus (first | omega | (simp only [List.length_nil, fx] <;> omega))); conv => whnf)
    | (refine nth_is ?_ ?_ ?_; (focus (first | omega | (simp only [List.length_nil, fx] <;> omega))); (focus (first | omega | (simp only [List.length_nil, fx] <;> omega))); conv => whnf)
    | (refine nth_bs ?_ ?_ ?_; (focus (first | omega | (simp only [List.length_nil, fx] <;> omega))); (focus (first | omega | (simp only [List.length_nil, fx] <;> omega))); conv => whnf))
open Classical in
noncomputable def c78 : List T → Ans
  | [.int .u64 s, .int .i64 o] => .yes (.int .u64 (orI .u64 s (bitI o)))
  | _ => .no
theorem got78 {vs : List T} {x : T} (h : Got (c78 vs) x) : FnOk Try.prog tgl 78 vs x := by
  unfold c78 at h
  split at h
  · rw [got_yes h]; exact ok78 _ _
  · exact (got_no h).elim
theorem nogl78 (vs : List T) (p : Prop) (d : Decidable p) (sz : Nat) (xs : List T) (h : c78 vs = @Ans.gl p d sz xs) : False := by
  unfold c78 at h
  split at h <;> cases h
theorem pk78 (vs : List T) (p : Prop) (d : Decidable p) (x : T) (h : c78 vs = @Ans.pk p d x) (hp : p) : FnOk Try.prog tgl 78 vs x := by
  unfold c78 at h
  split at h
  · cases h
  · cases h
noncomputable def lO2 : List (Nat × (List T → Ans)) := (78, c78) :: lO1
noncomputable def iO2 : List (Nat × Pt) := iO1
noncomputable abbrev O2 : Env := En tgl lO2 iO2
theorem env_O2 : EnvOk Try.prog O2 := (env_fn env_O1 (fun _ _ => got78) (fun vs p d sz xs h _ => (nogl78 vs p d sz xs h).elim) pk78)
def ofI (l : List Int) : Int := l.foldl (fun s o => orI .u64 s (bitI o)) 0
theorem ok51 (xs : List T) (hq : IsI xs ∧ SzB xs) : FnOk Try.prog tgl 51 [.list 1 xs] (.int .u64 (ofI (nums xs))) := by
  refine fn_ok (Γ := O2) env_O2 Try.func51 low51 ?_
  obtain ⟨⟨l, rfl, hl⟩, hs⟩ := hq
  have hlen := sz_lenB hs
  rw [nums_is]
  conv => whnf
  repeat' (first
    | (refine brK_true rfl ?_; conv => whnf)
    | (refine brK_false rfl ?_; conv => whnf)
    | (refine brK_true (by assumption) ?_; conv => whnf)
    | (refine brK_false (by assumption) ?_; conv => whnf)
    | (refine brK_true ?_ ?_; (focus (simp only [List.length_nil, fx] <;> omega)); conv => whnf)
    | (refine brK_false ?_ ?_; (focus (simp only [List.length_nil, fx] <;> omega)); conv => whnf)
    | ((refine brK_of (fun h => ?_) (fun h => ?_)) <;> (have h2 := h; (try simp only [List.length_nil, fx] at h2); conv => whnf))
    | (refine reqK_of ?_ ?_; (focus (first | decide | omega | assumption | (simp only [List.length_nil, fx] <;> omega) | (simp [keyNew, sameKey, kEq] <;> omega))); conv => whnf)
    | (refine reqK_of ?_ ?_; rotate_left; (conv => whnf); rotate_left)
    | (refine nth_us ?_ ?_ ?_; (focus (first | omega | (simp only [List.length_nil, fx] <;> omega))); (focus (first | omega | (simp only [List.length_nil, fx] <;> omega))); conv => whnf)
    | (refine nth_is ?_ ?_ ?_; (focus (first | omega | (simp only [List.length_nil, fx] <;> omega))); (focus (first | omega | (simp only [List.length_nil, fx] <;> omega))); conv => whnf)
    | (refine nth_bs ?_ ?_ ?_; (focus (first | omega | (simp only [List.length_nil, fx] <;> omega))); (focus (first | omega | (simp only [List.length_nil, fx] <;> omega))); conv => whnf))
  refine loopUp [] [.kill 5, .kill 9, .kill 10, .kill 11, .kill 12, .kill 13, .kill 14, .kill 15] (fun k : Nat => [(3, .t (.int .u64 (ofI (l.take k)))), (8, .t (.int .i64 (k : Int)))]) (fun _ => []) (fun k => k ≤ l.length) (fun k => l.length - k) 0 (Nat.zero_le _) ?_
  conv => whnf
  refine ⟨⟨rfl, rfl⟩, fun k hk C hC => ?_⟩
  have hw : IntKind.i64.wrap ((k : Int) + 1) = (k : Int) + 1 := wrap_i64 ⟨by omega, by omega⟩
  have hts : k < l.length → ofI (l.take (k + 1)) = orI .u64 (ofI (l.take k)) (bitI (at0 l k)) := fun h => by
    have e : l.take (k + 1) = l.take k ++ [at0 l k] := by rw [List.take_add_one]; simp [at0, h]
    rw [e]
    simp [ofI, List.foldl_append]
  conv => whnf
  repeat' (first
    | (refine brK_true rfl ?_; conv => whnf)
    | (refine brK_false rfl ?_; conv => whnf)
    | (refine brK_true (by assumption) ?_; conv => whnf)
    | (refine brK_false (by assumption) ?_; conv => whnf)
    | (refine brK_true ?_ ?_; (focus (simp only [List.length_nil, fx] <;> omega)); conv => whnf)
    | (refine brK_false ?_ ?_; (focus (simp only [List.length_nil, fx] <;> omega)); conv => whnf)
    | ((refine brK_of (fun h => ?_) (fun h => ?_)) <;> (have h2 := h; (try simp only [List.length_nil, fx] at h2); conv => whnf))
    | (refine reqK_of ?_ ?_; (focus (first | decide | omega | assumption | (simp only [List.length_nil, fx] <;> omega) | (simp [keyNew, sameKey, kEq] <;> omega))); conv => whnf)
    | (refine reqK_of ?_ ?_; rotate_left; (conv => whnf); rotate_left)
    | (refine nth_us ?_ ?_ ?_; (focus (first | omega | (simp only [List.length_nil, fx] <;> omega))); (focus (first | omega | (simp only [List.length_nil, fx] <;> omega))); conv => whnf)
    | (refine nth_is ?_ ?_ ?_; (focus (first | omega | (simp only [List.length_nil, fx] <;> omega))); (focus (first | omega | (simp only [List.length_nil, fx] <;> omega))); conv => whnf)
    | (refine nth_bs ?_ ?_ ?_; (focus (first | omega | (simp only [List.length_nil, fx] <;> omega))); (focus (first | omega | (simp only [List.length_nil, fx] <;> omega))); conv => whnf))
  · refine loopC (hC (k + 1) (by omega) (by omega)) ?_
    rw [hw, hts (by omega), Int.natCast_succ]
    rfl
  · rw [List.take_of_length_le (by omega)]
open Classical in
noncomputable def c51 : List T → Ans
  | [.list 1 xs] => .req (IsI xs ∧ SzB xs) (.int .u64 (ofI (nums xs)))
  | _ => .no
theorem got51 {vs : List T} {x : T} (h : Got (c51 vs) x) : FnOk Try.prog tgl 51 vs x := by
  unfold c51 at h
  split at h
  · obtain ⟨hq, e⟩ := got_req h; rw [e]; exact ok51 _ hq
  · exact (got_no h).elim
theorem nogl51 (vs : List T) (p : Prop) (d : Decidable p) (sz : Nat) (xs : List T) (h : c51 vs = @Ans.gl p d sz xs) : False := by
  unfold c51 at h
  split at h <;> cases h
theorem pk51 (vs : List T) (p : Prop) (d : Decidable p) (x : T) (h : c51 vs = @Ans.pk p d x) (hp : p) : FnOk Try.prog tgl 51 vs x := by
  unfold c51 at h
  split at h
  · cases h
  · cases h
def pcI (s : Int) : Int :=
  let s1 := IntKind.u64.wrap (andI .u64 (shrI .u64 s 1) 6148914691236517205 + andI .u64 s 6148914691236517205)
  let s2 := IntKind.u64.wrap (andI .u64 (shrI .u64 s1 2) 3689348814741910323 + andI .u64 s1 3689348814741910323)
  let s3 := andI .u64 (IntKind.u64.wrap (shrI .u64 s2 4 + s2)) 1085102592571150095
  let s4 := IntKind.u64.wrap (s3 + shrI .u64 s3 8)
  let s5 := IntKind.u64.wrap (s4 + shrI .u64 s4 16)
  let s6 := IntKind.u64.wrap (s5 + shrI .u64 s5 32)
  andI .i64 (IntKind.i64.wrap s6) 127
theorem ok79 (s : Int) : FnOk Try.prog tgl 79 [.int .u64 s] (.int .i64 (pcI s)) := by
  refine fn_ok (Γ := B0) env_B0 Try.func79 low79 ?_
  conv => whnf
  repeat' (first
    | (refine brK_true rfl ?_; conv => whnf)
    | (refine brK_false rfl ?_; conv => whnf)
    | (refine brK_true (by assumption) ?_; conv => whnf)
    | (refine brK_false (by assumption) ?_; conv => whnf)
    | (refine brK_true ?_ ?_; (focus (simp only [List.length_nil, fx] <;> omega)); conv => whnf)
    | (refine brK_false ?_ ?_; (focus (simp only [List.length_nil, fx] <;> omega)); conv => whnf)
    | ((refine brK_of (fun h => ?_) (fun h => ?_)) <;> (have h2 := h; (try simp only [List.length_nil, fx] at h2); conv => whnf))
    | (refine reqK_of ?_ ?_; (focus (first | decide | omega | assumption | (simp only [List.length_nil, fx] <;> omega) | (simp [keyNew, sameKey, kEq] <;> omega))); conv => whnf)
    | (refine reqK_of ?_ ?_; rotate_left; (conv => whnf); rotate_left)
    | (refine nth_us ?_ ?_ ?_; (focus (first | omega | (simp only [List.length_nil, fx] <;> omega))); (focus (first | omega | (simp only [List.length_nil, fx] <;> omega))); conv => whnf)
    | (refine nth_is ?_ ?_ ?_; (focus (first | omega | (simp only [List.length_nil, fx] <;> omega))); (focus (first | omega | (simp only [List.length_nil, fx] <;> omega))); conv => whnf)
    | (refine nth_bs ?_ ?_ ?_; (focus (first | omega | (simp only [List.length_nil, fx] <;> omega))); (focus (first | omega | (simp only [List.length_nil, fx] <;> omega))); conv => whnf))
  rfl
open Classical in
noncomputable def c79 : List T → Ans
  | [.int .u64 s] => .yes (.int .i64 (pcI s))
  | _ => .no
theorem got79 {vs : List T} {x : T} (h : Got (c79 vs) x) : FnOk Try.prog tgl 79 vs x := by
  unfold c79 at h
  split at h
  · rw [got_yes h]; exact ok79 _
  · exact (got_no h).elim
theorem nogl79 (vs : List T) (p : Prop) (d : Decidable p) (sz : Nat) (xs : List T) (h : c79 vs = @Ans.gl p d sz xs) : False := by
  unfold c79 at h
  split at h <;> cases h
theorem pk79 (vs : List T) (p : Prop) (d : Decidable p) (x : T) (h : c79 vs = @Ans.pk p d x) (hp : p) : FnOk Try.prog tgl 79 vs x := by
  unfold c79 at h
  split at h
  · cases h
  · cases h
noncomputable def lO3 : List (Nat × (List T → Ans)) := (51, c51) :: (79, c79) :: lO2
noncomputable def iO3 : List (Nat × Pt) := iO2
noncomputable abbrev O3 : Env := En tgl lO3 iO3
theorem env_O3 : EnvOk Try.prog O3 := (env_fn (env_fn env_O2 (fun _ _ => got79) (fun vs p d sz xs h _ => (nogl79 vs p d sz xs h).elim) pk79) (fun _ _ => got51) (fun vs p d sz xs h _ => (nogl51 vs p d sz xs h).elim) pk51)
theorem ok52 (s : Int) : FnOk Try.prog tgl 52 [.int .u64 s] (.int .i64 (pcI s)) := by
  refine fn_ok (Γ := O3) env_O3 Try.func52 low52 ?_
  conv => whnf
  repeat' (first
    | (refine brK_true rfl ?_; conv => whnf)
    | (refine brK_false rfl ?_; conv => whnf)
    | (refine brK_true (by assumption) ?_; conv => whnf)
    | (refine brK_false (by assumption) ?_; conv => whnf)
    | (refine brK_true ?_ ?_; (focus (simp only [List.length_nil, fx] <;> omega)); conv => whnf)
    | (refine brK_false ?_ ?_; (focus (simp only [List.length_nil, fx] <;> omega)); conv => whnf)
    | ((refine brK_of (fun h => ?_) (fun h => ?_)) <;> (have h2 := h; (try simp only [List.length_nil, fx] at h2); conv => whnf))
    | (refine reqK_of ?_ ?_; (focus (first | decide | omega | assumption | (simp only [List.length_nil, fx] <;> omega) | (simp [keyNew, sameKey, kEq] <;> omega))); conv => whnf)
    | (refine reqK_of ?_ ?_; rotate_left; (conv => whnf); rotate_left)
    | (refine nth_us ?_ ?_ ?_; (focus (first | omega | (simp only [List.length_nil, fx] <;> omega))); (focus (first | omega | (simp only [List.length_nil, fx] <;> omega))); conv => whnf)
    | (refine nth_is ?_ ?_ ?_; (focus (first | omega | (simp only [List.length_nil, fx] <;> omega))); (focus (first | omega | (simp only [List.length_nil, fx] <;> omega))); conv => whnf)
    | (refine nth_bs ?_ ?_ ?_; (focus (first | omega | (simp only [List.length_nil, fx] <;> omega))); (focus (first | omega | (simp only [List.length_nil, fx] <;> omega))); conv => whnf))
open Classical in
noncomputable def c52 : List T → Ans
  | [.int .u64 s] => .yes (.int .i64 (pcI s))
  | _ => .no
theorem got52 {vs : List T} {x : T} (h : Got (c52 vs) x) : FnOk Try.prog tgl 52 vs x := by
  unfold c52 at h
  split at h
  · rw [got_yes h]; exact ok52 _
  · exact (got_no h).elim
theorem nogl52 (vs : List T) (p : Prop) (d : Decidable p) (sz : Nat) (xs : List T) (h : c52 vs = @Ans.gl p d sz xs) : False := by
  unfold c52 at h
  split at h <;> cases h
theorem pk52 (vs : List T) (p : Prop) (d : Decidable p) (x : T) (h : c52 vs = @Ans.pk p d x) (hp : p) : FnOk Try.prog tgl 52 vs x := by
  unfold c52 at h
  split at h
  · cases h
  · cases h
noncomputable def lO4 : List (Nat × (List T → Ans)) := (52, c52) :: lO3
noncomputable def iO4 : List (Nat × Pt) := iO3
noncomputable abbrev O4 : Env := En tgl lO4 iO4
theorem env_O4 : EnvOk Try.prog O4 := (env_fn env_O3 (fun _ _ => got52) (fun vs p d sz xs h _ => (nogl52 vs p d sz xs h).elim) pk52)
def onceI (l : List Int) : Int × Bool := if pcI (ofI l) = (l.length : Int) then (ofI l, true) else (0, false)
theorem ok21 (xs : List T) (hq : IsI xs ∧ SzB xs) : FnOk Try.prog tgl 21 [.list 1 xs] (.tup [.int .u64 (onceI (nums xs)).1, .bool (onceI (nums xs)).2]) := by
  refine fn_ok (Γ := O4) env_O4 Try.func21 low21 ?_
  have hq' := hq
  obtain ⟨⟨l, rfl, hl⟩, hs⟩ := hq
  rw [nums_is]
  conv => whnf
  repeat' (first
    | (refine brK_true rfl ?_; conv => whnf)
    | (refine brK_false rfl ?_; conv => whnf)
    | (refine brK_true (by assumption) ?_; conv => whnf)
    | (refine brK_false (by assumption) ?_; conv => whnf)
    | (refine brK_true ?_ ?_; (focus (simp only [List.length_nil, fx, nums_is] <;> omega)); conv => whnf)
    | (refine brK_false ?_ ?_; (focus (simp only [List.length_nil, fx, nums_is] <;> omega)); conv => whnf)
    | ((refine brK_of (fun h => ?_) (fun h => ?_)) <;> (have h2 := h; (try simp only [List.length_nil, fx, nums_is] at h2); conv => whnf))
    | (refine reqK_of ?_ ?_; (focus (first | decide | omega | assumption | (simp only [List.length_nil, fx, nums_is] <;> omega) | (simp [keyNew, sameKey, kEq] <;> omega))); conv => whnf)
    | (refine reqK_of ?_ ?_; rotate_left; (conv => whnf); rotate_left)
    | (refine nth_us ?_ ?_ ?_; (focus (first | omega | (simp only [List.length_nil, fx, nums_is] <;> omega))); (focus (first | omega | (simp only [List.length_nil, fx, nums_is] <;> omega))); conv => whnf)
    | (refine nth_is ?_ ?_ ?_; (focus (first | omega | (simp only [List.length_nil, fx, nums_is] <;> omega))); (focus (first | omega | (simp only [List.length_nil, fx, nums_is] <;> omega))); conv => whnf)
    | (refine nth_bs ?_ ?_ ?_; (focus (first | omega | (simp only [List.length_nil, fx, nums_is] <;> omega))); (focus (first | omega | (simp only [List.length_nil, fx, nums_is] <;> omega))); conv => whnf))
  · unfold onceI; rw [if_neg (by assumption)]
  · unfold onceI; rw [if_pos (by assumption), nums_is]
open Classical in
noncomputable def c21 : List T → Ans
  | [.list 1 xs] => .req (IsI xs ∧ SzB xs) (.tup [.int .u64 (onceI (nums xs)).1, .bool (onceI (nums xs)).2])
  | _ => .no
theorem got21 {vs : List T} {x : T} (h : Got (c21 vs) x) : FnOk Try.prog tgl 21 vs x := by
  unfold c21 at h
  split at h
  · obtain ⟨hq, e⟩ := got_req h; rw [e]; exact ok21 _ hq
  · exact (got_no h).elim
theorem nogl21 (vs : List T) (p : Prop) (d : Decidable p) (sz : Nat) (xs : List T) (h : c21 vs = @Ans.gl p d sz xs) : False := by
  unfold c21 at h
  split at h <;> cases h
theorem pk21 (vs : List T) (p : Prop) (d : Decidable p) (x : T) (h : c21 vs = @Ans.pk p d x) (hp : p) : FnOk Try.prog tgl 21 vs x := by
  unfold c21 at h
  split at h
  · cases h
  · cases h
end Go.Nx
