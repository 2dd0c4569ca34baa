/-
  BAGS: COUNT, NORM, SUM.
-/
import Derived.Test.YtommbfigioeghaaBr
set_option linter.unusedVariables false
set_option linter.unusedSimpArgs false
set_option maxRecDepth 20000
set_option maxHeartbeats 4000000
namespace Go.Nx
open Go.RowKit Go.Proofs

theorem sz_B {l : List Int} (h : l.length ≤ 17592186044416) : SzB (is l) := by unfold SzB maxBytes; rw [is_len]; omega
theorem ok55 (xs : List T) (hq : IsI xs ∧ SzB xs) : FnGl Try.prog tgl 55 [.list 1 xs] 1 xs := by
  refine fnG_ok (Γ := B0) env_B0 Try.func55 low55 ?_
  obtain ⟨⟨l, rfl, hl⟩, hs⟩ := hq
  have hlen := sz_lenB hs
  conv => whnf
  repeat' (first
    | (refine brK_true rfl ?_; conv => whnf)
    | (refine brK_false rfl ?_; conv => whnf)
    | (refine brK_true (by assumption) ?_; conv => whnf)
    | (refine brK_false (by assumption) ?_; conv => whnf)
    | (refine brK_true ?_ ?_; (focus (simp only [List.length_nil, fx] <;> omega)); conv => whnf)
    | (refine brK_false ?_ ?_; (focus (simp only [List.length_nil, fx] <;> omega)); conv => whnf)
    | ((refine brK_of (fun h => ?_) (fun h => ?_)) <;> (have h2 := h; (try simp only [List.length_nil, fx] at h2); conv => whnf))
    | (refine reqK_of ?_ ?_; (focus (first | decide | omega | assumption | (simp only [List.length_nil, fx] <;> omega) | (simp [keyNew, sameKey, kEq] <;> omega))); conv => whnf)
    | (refine reqK_of ?_ ?_; rotate_left; (conv => whnf); rotate_left)
    | (refine nth_us ?_ ?_ ?_; (focus (first | omega | (simp only [List.length_nil, fx] <;> omega))); (focus (first | omega | (simp only [List.length_nil, fx] <;> omega))); conv => whnf)
    | (refine nth_is ?_ ?_ ?_; (focus (first | omega | (simp only [List.length_nil, fx] <;> omega))); (focus (first | omega | (simp only [List.length_nil, fx] <;> omega))); conv => whnf)
    | (refine nth_bs ?_ ?_ ?_; (focus (first | omega | (simp only [List.length_nil, fx] <;> omega))); (focus (first | omega | (simp only [List.length_nil, fx] <;> omega))); conv => whnf))
  refine altK_of ?_ (fun hnil => ?_)
  · conv => whnf
    repeat' (first
      | (refine brK_true rfl ?_; conv => whnf)
      | (refine brK_false rfl ?_; conv => whnf)
      | (refine brK_true (by assumption) ?_; conv => whnf)
      | (refine brK_false (by assumption) ?_; conv => whnf)
      | (refine brK_true ?_ ?_; (focus (simp only [List.length_nil, fx] <;> omega)); conv => whnf)
      | (refine brK_false ?_ ?_; (focus (simp only [List.length_nil, fx] <;> omega)); conv => whnf)
      | ((refine brK_of (fun h => ?_) (fun h => ?_)) <;> (have h2 := h; (try simp only [List.length_nil, fx] at h2); conv => whnf))
      | (refine reqK_of ?_ ?_; (focus (first | decide | omega | assumption | (simp only [List.length_nil, fx] <;> omega) | (simp [keyNew, sameKey, kEq] <;> omega))); conv => whnf)
      | (refine reqK_of ?_ ?_; rotate_left; (conv => whnf); rotate_left)
      | (refine nth_us ?_ ?_ ?_; (focus (first | omega | (simp only [List.length_nil, fx] <;> omega))); (focus (first | omega | (simp only [List.length_nil, fx] <;> omega))); conv => whnf)
      | (refine nth_is ?_ ?_ ?_; (focus (first | omega | (simp only [List.length_nil, fx] <;> omega))); (focus (first | omega | (simp only [List.length_nil, fx] <;> omega))); conv => whnf)
      | (refine nth_bs ?_ ?_ ?_; (focus (first | omega | (simp only [List.length_nil, fx] <;> omega))); (focus (first | omega | (simp only [List.length_nil, fx] <;> omega))); conv => whnf))
  · conv => whnf
    repeat' (first
      | (refine brK_true rfl ?_; conv => whnf)
      | (refine brK_false rfl ?_; conv => whnf)
      | (refine brK_true (by assumption) ?_; conv => whnf)
      | (refine brK_false (by assumption) ?_; conv => whnf)
      | (refine brK_true ?_ ?_; (focus (simp only [List.length_nil, fx] <;> omega)); conv => whnf)
      | (refine brK_false ?_ ?_; (focus (simp only [List.length_nil, fx] <;> omega)); conv => whnf)
      | ((refine brK_of (fun h => ?_) (fun h => ?_)) <;> (have h2 := h; (try simp only [List.length_nil, fx] at h2); conv => whnf))
      | (refine reqK_of ?_ ?_; (focus (first | decide | omega | assumption | (simp only [List.length_nil, fx] <;> omega) | (simp [keyNew, sameKey, kEq] <;> omega))); conv => whnf)
      | (refine reqK_of ?_ ?_; rotate_left; (conv => whnf); rotate_left)
      | (refine nth_us ?_ ?_ ?_; (focus (first | omega | (simp only [List.length_nil, fx] <;> omega))); (focus (first | omega | (simp only [List.length_nil, fx] <;> omega))); conv => whnf)
      | (refine nth_is ?_ ?_ ?_; (focus (first | omega | (simp only [List.length_nil, fx] <;> omega))); (focus (first | omega | (simp only [List.length_nil, fx] <;> omega))); conv => whnf)
      | (refine nth_bs ?_ ?_ ?_; (focus (first | omega | (simp only [List.length_nil, fx] <;> omega))); (focus (first | omega | (simp only [List.length_nil, fx] <;> omega))); conv => whnf))
    all_goals (first | exact hnil.symm | skip)
theorem ok55_2  (hq : True) : FnGl Try.prog tgl 55 [.nils] 1 [] := by
  refine fnG_ok (Γ := B0) env_B0 Try.func55 low55 ?_
  conv => whnf
  repeat' (first
    | (refine brK_true rfl ?_; conv => whnf)
    | (refine brK_false rfl ?_; conv => whnf)
    | (refine brK_true (by assumption) ?_; conv => whnf)
    | (refine brK_false (by assumption) ?_; conv => whnf)
    | (refine brK_true ?_ ?_; (focus (simp only [List.length_nil, fx] <;> omega)); conv => whnf)
    | (refine brK_false ?_ ?_; (focus (simp only [List.length_nil, fx] <;> omega)); conv => whnf)
    | ((refine brK_of (fun h => ?_) (fun h => ?_)) <;> (have h2 := h; (try simp only [List.length_nil, fx] at h2); conv => whnf))
    | (refine reqK_of ?_ ?_; (focus (first | decide | omega | assumption | (simp only [List.length_nil, fx] <;> omega) | (simp [keyNew, sameKey, kEq] <;> omega))); conv => whnf)
    | (refine reqK_of ?_ ?_; rotate_left; (conv => whnf); rotate_left)
    | (refine nth_us ?_ ?_ ?_; (focus (first | omega | (simp only [List.length_nil, fx] <;> omega))); (focus (first | omega | (simp only [List.length_nil, fx] <;> omega))); conv => whnf)
    | (refine nth_is ?_ ?_ ?_; (focus (first | omega | (simp only [List.length_nil, fx] <;> omega))); (focus (first | omega | (simp only [List.length_nil, fx] <;> omega))); conv => whnf)
    | (refine nth_bs ?_ ?_ ?_; (focus (first | omega | (simp only [List.length_nil, fx] <;> omega))); (focus (first | omega | (simp only [List.length_nil, fx] <;> omega))); conv => whnf))
open Classical in
noncomputable def c55 : List T → Ans
  | [.list 1 xs] => .gl (IsI xs ∧ SzB xs) 1 xs
  | [.nils] => .gl (True) 1 []
  | _ => .no
theorem got55 {vs : List T} {x : T} (h : Got (c55 vs) x) : FnOk Try.prog tgl 55 vs x := by
  unfold c55 at h
  split at h
  · exact (got_gl h).elim
  · exact (got_gl h).elim
  · exact (got_no h).elim
theorem gl55 (vs : List T) (p : Prop) (d : Decidable p) (sz : Nat) (xs : List T) (h : c55 vs = @Ans.gl p d sz xs) (hp : p) : FnGl Try.prog tgl 55 vs sz xs := by
  unfold c55 at h
  split at h
  · cases h; exact ok55 _ hp
  · cases h; exact ok55_2 hp
  · cases h
theorem pk55 (vs : List T) (p : Prop) (d : Decidable p) (x : T) (h : c55 vs = @Ans.pk p d x) (hp : p) : FnOk Try.prog tgl 55 vs x := by
  unfold c55 at h
  split at h <;> cases h
theorem ok82 (n : Int) (hq : 0 ≤ n ∧ n ≤ 17592186044416) : FnGl Try.prog tgl 82 [.nils, .int .i64 n] 1 [] := by
  refine fnG_ok (Γ := B0) env_B0 Try.func82 low82 ?_
  have hw : IntKind.i64.wrap (n - 0) = n := by rw [Int.sub_zero]; exact wrap_i64 ⟨by omega, by omega⟩
  have hw0 : IntKind.i64.wrap (0 - 0) = 0 := rfl
  have hz : IntKind.i64.wrap (0 - (([] : List T).length : Int)) = 0 := rfl
  have hn : IntKind.i64.wrap (n - IntKind.i64.wrap (0 - (([] : List T).length : Int))) = n := by rw [hz]; exact hw
  conv => whnf
  repeat' (first
    | (refine brK_true rfl ?_; conv => whnf)
    | (refine brK_false rfl ?_; conv => whnf)
    | (refine brK_true (by assumption) ?_; conv => whnf)
    | (refine brK_false (by assumption) ?_; conv => whnf)
    | (refine brK_true ?_ ?_; (focus (simp only [List.length_nil, fx, hw0, hw, hn] <;> omega)); conv => whnf)
    | (refine brK_false ?_ ?_; (focus (simp only [List.length_nil, fx, hw0, hw, hn] <;> omega)); conv => whnf)
    | ((refine brK_of (fun h => ?_) (fun h => ?_)) <;> (have h2 := h; (try simp only [List.length_nil, fx, hw0, hw, hn] at h2); conv => whnf))
    | (refine reqK_of ?_ ?_; (focus (first | decide | omega | assumption | (simp only [List.length_nil, fx, hw0, hw, hn] <;> omega) | (simp [keyNew, sameKey, kEq] <;> omega))); conv => whnf)
    | (refine reqK_of ?_ ?_; rotate_left; (conv => whnf); rotate_left)
    | (refine nth_us ?_ ?_ ?_; (focus (first | omega | (simp only [List.length_nil, fx, hw0, hw, hn] <;> omega))); (focus (first | omega | (simp only [List.length_nil, fx, hw0, hw, hn] <;> omega))); conv => whnf)
    | (refine nth_is ?_ ?_ ?_; (focus (first | omega | (simp only [List.length_nil, fx, hw0, hw, hn] <;> omega))); (focus (first | omega | (simp only [List.length_nil, fx, hw0, hw, hn] <;> omega))); conv => whnf)
    | (refine nth_bs ?_ ?_ ?_; (focus (first | omega | (simp only [List.length_nil, fx, hw0, hw, hn] <;> omega))); (focus (first | omega | (simp only [List.length_nil, fx, hw0, hw, hn] <;> omega))); conv => whnf))
  · rw [hn]; unfold maxBytes; omega
  · rw [hn, List.length_replicate]; unfold maxBytes; omega
  · simp [subL]
open Classical in
noncomputable def c82 : List T → Ans
  | [.nils, .int .i64 n] => .gl (0 ≤ n ∧ n ≤ 17592186044416) 1 []
  | _ => .no
theorem got82 {vs : List T} {x : T} (h : Got (c82 vs) x) : FnOk Try.prog tgl 82 vs x := by
  unfold c82 at h
  split at h
  · exact (got_gl h).elim
  · exact (got_no h).elim
theorem gl82 (vs : List T) (p : Prop) (d : Decidable p) (sz : Nat) (xs : List T) (h : c82 vs = @Ans.gl p d sz xs) (hp : p) : FnGl Try.prog tgl 82 vs sz xs := by
  unfold c82 at h
  split at h
  · cases h; exact ok82 _ hp
  · cases h
theorem pk82 (vs : List T) (p : Prop) (d : Decidable p) (x : T) (h : c82 vs = @Ans.pk p d x) (hp : p) : FnOk Try.prog tgl 82 vs x := by
  unfold c82 at h
  split at h <;> cases h
theorem fnOk_of {f : FuncId} {vs : List T} {x : T} (he : Enter Try.prog f) (h : ∀ (S : Cells) (w : World) (args : Array Value), args.size = vs.length → (∀ (i : Nat) (c : T) (u : Value), vs[i]? = some c → args[i]? = some u → RelT S w c u) →
    Calls Try.prog f args w fun e w' => ∃ v, e = .returned v ∧ w' = w ∧ RelT S w x v) : FnOk Try.prog tgl f vs x := by
  refine ⟨he, fun S w args hlt hgl hsz hrel => (h S w args hsz hrel).mono ?_⟩
  rintro e w' ⟨v, rfl, rfl, hv⟩
  exact ⟨v, rfl, hv.mono (fun b o hb => .inl hb) (fun _ _ _ => rfl), Below.refl _ _⟩
theorem ok28 (xs : List T) (o : Int) (hq : IsI xs ∧ SzB xs) : FnOk Try.prog tgl 28 [.list 1 xs, .int .i64 o] (.int .i64 ((nums xs).count o)) := by
  refine fn_ok (Γ := B0) env_B0 Try.func28 low28 ?_
  obtain ⟨⟨l, rfl, hl⟩, hs⟩ := hq
  have hlen := sz_lenB hs
  rw [nums_is]
  conv => whnf
  repeat' (first
    | (refine brK_true rfl ?_; conv => whnf)
    | (refine brK_false rfl ?_; conv => whnf)
    | (refine brK_true (by assumption) ?_; conv => whnf)
    | (refine brK_false (by assumption) ?_; conv => whnf)
    | (refine brK_true ?_ ?_; (focus (simp only [List.length_nil, fx] <;> omega)); conv => whnf)
    | (refine brK_false ?_ ?_; (focus (simp only [List.length_nil, fx] <;> omega)); conv => whnf)
    | ((refine brK_of (fun h => ?_) (fun h => ?_)) <;> (have h2 := h; (try simp only [List.length_nil, fx] at h2); conv => whnf))
    | (refine reqK_of ?_ ?_; (focus (first | decide | omega | assumption | (simp only [List.length_nil, fx] <;> omega) | (simp [keyNew, sameKey, kEq] <;> omega))); conv => whnf)
    | (refine reqK_of ?_ ?_; rotate_left; (conv => whnf); rotate_left)
    | (refine nth_us ?_ ?_ ?_; (focus (first | omega | (simp only [List.length_nil, fx] <;> omega))); (focus (first | omega | (simp only [List.length_nil, fx] <;> omega))); conv => whnf)
    | (refine nth_is ?_ ?_ ?_; (focus (first | omega | (simp only [List.length_nil, fx] <;> omega))); (focus (first | omega | (simp only [List.length_nil, fx] <;> omega))); conv => whnf)
    | (refine nth_bs ?_ ?_ ?_; (focus (first | omega | (simp only [List.length_nil, fx] <;> omega))); (focus (first | omega | (simp only [List.length_nil, fx] <;> omega))); conv => whnf))
  have hcl := List.count_le_length (a := o) (l := l)
  refine loopUp [] [.kill 7, .kill 11, .kill 12, .kill 13, .kill 14, .kill 15, .kill 16, .kill 17, .kill 18, .kill 19] (fun k : Nat => [(5, .t (.int .i64 ((l.take k).count o))), (10, .t (.int .i64 (k : Int)))]) (fun _ => []) (fun k => k ≤ l.length) (fun k => l.length - k) 0 (Nat.zero_le _) ?_
  conv => whnf
  refine ⟨⟨rfl, rfl⟩, fun k hk C hC => ?_⟩
  have hw : IntKind.i64.wrap ((k : Int) + 1) = (k : Int) + 1 := wrap_i64 ⟨by omega, by omega⟩
  have hct := List.count_le_length (a := o) (l := l.take k)
  have htl : (l.take k).length ≤ l.length := by simp; omega
  have hw2 : IntKind.i64.wrap (((l.take k).count o : Nat) + 1 : Int) = ((l.take k).count o : Nat) + 1 := wrap_i64 ⟨by omega, by omega⟩
  have hts : k < l.length → l.take (k + 1) = l.take k ++ [at0 l k] := fun h => by rw [List.take_add_one]; simp [at0, h]
  conv => whnf
  repeat' (first
    | (refine brK_true rfl ?_; conv => whnf)
    | (refine brK_false rfl ?_; conv => whnf)
    | (refine brK_true (by assumption) ?_; conv => whnf)
    | (refine brK_false (by assumption) ?_; conv => whnf)
    | (refine brK_true ?_ ?_; (focus (simp only [List.length_nil, fx] <;> omega)); conv => whnf)
    | (refine brK_false ?_ ?_; (focus (simp only [List.length_nil, fx] <;> omega)); conv => whnf)
    | ((refine brK_of (fun h => ?_) (fun h => ?_)) <;> (have h2 := h; (try simp only [List.length_nil, fx] at h2); conv => whnf))
    | (refine reqK_of ?_ ?_; (focus (first | decide | omega | assumption | (simp only [List.length_nil, fx] <;> omega) | (simp [keyNew, sameKey, kEq] <;> omega))); conv => whnf)
    | (refine reqK_of ?_ ?_; rotate_left; (conv => whnf); rotate_left)
    | (refine nth_us ?_ ?_ ?_; (focus (first | omega | (simp only [List.length_nil, fx] <;> omega))); (focus (first | omega | (simp only [List.length_nil, fx] <;> omega))); conv => whnf)
    | (refine nth_is ?_ ?_ ?_; (focus (first | omega | (simp only [List.length_nil, fx] <;> omega))); (focus (first | omega | (simp only [List.length_nil, fx] <;> omega))); conv => whnf)
    | (refine nth_bs ?_ ?_ ?_; (focus (first | omega | (simp only [List.length_nil, fx] <;> omega))); (focus (first | omega | (simp only [List.length_nil, fx] <;> omega))); conv => whnf))
  · refine loopC (hC (k + 1) (by omega) (by omega)) ?_
    rw [hw, hw2, hts (by omega), List.count_append, show at0 l k = o by assumption, Int.natCast_succ]
    simp only [List.count_singleton_self, Int.natCast_succ]
    rfl
  · refine loopC (hC (k + 1) (by omega) (by omega)) ?_
    have h0 : ([at0 l k] : List Int).count o = 0 := by
      rw [List.count_eq_zero]; intro hm; simp at hm; exact absurd hm.symm (by assumption)
    rw [hw, hts (by omega), List.count_append, h0, Int.natCast_succ]
    rfl
  · rw [List.take_of_length_le (by omega)]
open Classical in
noncomputable def c28 : List T → Ans
  | [.list 1 xs, .int .i64 o] => .req (IsI xs ∧ SzB xs) (.int .i64 ((nums xs).count o))
  | _ => .no
theorem got28 {vs : List T} {x : T} (h : Got (c28 vs) x) : FnOk Try.prog tgl 28 vs x := by
  unfold c28 at h
  split at h
  · obtain ⟨hq, e⟩ := got_req h; rw [e]; exact ok28 _ _ hq
  · exact (got_no h).elim
theorem nogl28 (vs : List T) (p : Prop) (d : Decidable p) (sz : Nat) (xs : List T) (h : c28 vs = @Ans.gl p d sz xs) : False := by
  unfold c28 at h
  split at h <;> cases h
theorem pk28 (vs : List T) (p : Prop) (d : Decidable p) (x : T) (h : c28 vs = @Ans.pk p d x) (hp : p) : FnOk Try.prog tgl 28 vs x := by
  unfold c28 at h
  split at h
  · cases h
  · cases h
noncomputable def lB4 : List (Nat × (List T → Ans)) := (48, c48) :: (16, c16) :: (28, c28) :: (82, c82) :: (55, c55) :: lS3
noncomputable def iB4 : List (Nat × Pt) := iS3
noncomputable abbrev B4 : Env := En tgl lB4 iB4
theorem env_B4 : EnvOk Try.prog B4 := (env_fn (env_fn (env_fn (env_fn (env_fn env_S3 (fun _ _ => got55) gl55 pk55) (fun _ _ => got82) gl82 pk82) (fun _ _ => got28) (fun vs p d sz xs h _ => (nogl28 vs p d sz xs h).elim) pk28) (fun _ _ => got16) (fun vs p d sz xs h _ => (nogl16 vs p d sz xs h).elim) pk16) (fun _ _ => got48) (fun vs p d sz xs h _ => (nogl48 vs p d sz xs h).elim) pk48)
theorem ok26 (xs : List T) (hq : IsI xs ∧ SzB xs) : FnOk Try.prog tgl 26 [.list 1 xs] (.list 1 (is (srt (nums xs)))) := by
  refine fn_ok (Γ := B4) env_B4 Try.func26 low26 ?_
  conv => whnf
  repeat' (first
    | (refine brK_true rfl ?_; conv => whnf)
    | (refine brK_false rfl ?_; conv => whnf)
    | (refine brK_true (by assumption) ?_; conv => whnf)
    | (refine brK_false (by assumption) ?_; conv => whnf)
    | (refine brK_true ?_ ?_; (focus (simp only [List.length_nil, fx] <;> omega)); conv => whnf)
    | (refine brK_false ?_ ?_; (focus (simp only [List.length_nil, fx] <;> omega)); conv => whnf)
    | ((refine brK_of (fun h => ?_) (fun h => ?_)) <;> (have h2 := h; (try simp only [List.length_nil, fx] at h2); conv => whnf))
    | (refine reqK_of ?_ ?_; (focus (first | decide | omega | assumption | (simp only [List.length_nil, fx] <;> omega) | (simp [keyNew, sameKey, kEq] <;> omega))); conv => whnf)
    | (refine reqK_of ?_ ?_; rotate_left; (conv => whnf); rotate_left)
    | (refine nth_us ?_ ?_ ?_; (focus (first | omega | (simp only [List.length_nil, fx] <;> omega))); (focus (first | omega | (simp only [List.length_nil, fx] <;> omega))); conv => whnf)
    | (refine nth_is ?_ ?_ ?_; (focus (first | omega | (simp only [List.length_nil, fx] <;> omega))); (focus (first | omega | (simp only [List.length_nil, fx] <;> omega))); conv => whnf)
    | (refine nth_bs ?_ ?_ ?_; (focus (first | omega | (simp only [List.length_nil, fx] <;> omega))); (focus (first | omega | (simp only [List.length_nil, fx] <;> omega))); conv => whnf))
open Classical in
noncomputable def c26 : List T → Ans
  | [.list 1 xs] => .req (IsI xs ∧ SzB xs) (.list 1 (is (srt (nums xs))))
  | _ => .no
theorem got26 {vs : List T} {x : T} (h : Got (c26 vs) x) : FnOk Try.prog tgl 26 vs x := by
  unfold c26 at h
  split at h
  · obtain ⟨hq, e⟩ := got_req h; rw [e]; exact ok26 _ hq
  · exact (got_no h).elim
theorem nogl26 (vs : List T) (p : Prop) (d : Decidable p) (sz : Nat) (xs : List T) (h : c26 vs = @Ans.gl p d sz xs) : False := by
  unfold c26 at h
  split at h <;> cases h
theorem pk26 (vs : List T) (p : Prop) (d : Decidable p) (x : T) (h : c26 vs = @Ans.pk p d x) (hp : p) : FnOk Try.prog tgl 26 vs x := by
  unfold c26 at h
  split at h
  · cases h
  · cases h
theorem nth_twoA {a b : T} {i : Int} {K : T → Prop} (h0 : i = 0) (h1 : 0 ≤ i) (h : K a) : nthK [a, b] i K := by
  subst h0; exact nthK_of a (by omega) rfl h
theorem nth_twoB {a b : T} {i : Int} {K : T → Prop} (h0 : i = 1) (h1 : 0 ≤ i) (h : K b) : nthK [a, b] i K := by
  subst h0; exact nthK_of b (by omega) rfl h
def cat2 (l r : List Int) : Nat → List Int
  | 0 => []
  | 1 => l
  | _ => l ++ r
theorem ok58 (xs ys : List T) (hq : (IsI xs ∧ IsI ys) ∧ (xs.length + ys.length) * 8 ≤ maxBytes) : FnOk Try.prog tgl 58 [.list 1 [.list 1 xs, .list 1 ys]] (.list 1 (xs ++ ys)) := by
  refine fn_ok (Γ := B4) env_B4 Try.func58 low58 ?_
  obtain ⟨⟨⟨l, rfl, hl⟩, ⟨r, rfl, hr⟩⟩, hs⟩ := hq
  unfold maxBytes at hs
  rw [is_len, is_len] at hs
  conv => whnf
  repeat' (first
    | (refine brK_true rfl ?_; conv => whnf)
    | (refine brK_false rfl ?_; conv => whnf)
    | (refine brK_true (by assumption) ?_; conv => whnf)
    | (refine brK_false (by assumption) ?_; conv => whnf)
    | (refine brK_true ?_ ?_; (focus (simp only [List.length_nil, fx] <;> omega)); conv => whnf)
    | (refine brK_false ?_ ?_; (focus (simp only [List.length_nil, fx] <;> omega)); conv => whnf)
    | ((refine brK_of (fun h => ?_) (fun h => ?_)) <;> (have h2 := h; (try simp only [List.length_nil, fx] at h2); conv => whnf))
    | (refine reqK_of ?_ ?_; (focus (first | decide | omega | assumption | (simp only [List.length_nil, fx] <;> omega) | (simp [keyNew, sameKey, kEq] <;> omega))); conv => whnf)
    | (refine reqK_of ?_ ?_; rotate_left; (conv => whnf); rotate_left)
    | (refine nth_us ?_ ?_ ?_; (focus (first | omega | (simp only [List.length_nil, fx] <;> omega))); (focus (first | omega | (simp only [List.length_nil, fx] <;> omega))); conv => whnf)
    | (refine nth_is ?_ ?_ ?_; (focus (first | omega | (simp only [List.length_nil, fx] <;> omega))); (focus (first | omega | (simp only [List.length_nil, fx] <;> omega))); conv => whnf)
    | (refine nth_bs ?_ ?_ ?_; (focus (first | omega | (simp only [List.length_nil, fx] <;> omega))); (focus (first | omega | (simp only [List.length_nil, fx] <;> omega))); conv => whnf))
  refine loopUp [] [.kill 5, .kill 12, .kill 13, .kill 14, .kill 15, .kill 16, .kill 17, .kill 18, .kill 19, .kill 20, .kill 21, .kill 22] (fun k : Nat => [(3, .t (.int .i64 ((cat2 l r k).length : Nat))), (11, .t (.int .i64 (k : Int)))]) (fun _ => []) (fun k => k ≤ 2) (fun k => 2 - k) 0 (Nat.zero_le _) ?_
  conv => whnf
  refine ⟨⟨rfl, rfl⟩, fun k hk C hC => ?_⟩
  have hc2 : (cat2 l r k).length ≤ l.length + r.length := by
    unfold cat2; split <;> simp
  have hw0 : IntKind.i64.wrap (((0 : Nat) : Int) + 1) = ((0 + 1 : Nat) : Int) := rfl
  have hw1 : IntKind.i64.wrap (((1 : Nat) : Int) + 1) = ((1 + 1 : Nat) : Int) := rfl
  rcases (show k = 0 ∨ k = 1 ∨ k = 2 by omega) with rfl | rfl | rfl
  · have hw2 : IntKind.i64.wrap (((cat2 l r 0).length : Nat) + ((is l).length : Int)) = ((cat2 l r (0 + 1)).length : Nat) := by
      rw [is_len]
      show IntKind.i64.wrap (((0 : Nat) : Int) + _) = _
      rw [Int.natCast_zero, Int.zero_add]; exact wrap_i64 ⟨by omega, by omega⟩
    conv => whnf
    repeat' (first
      | (refine brK_true rfl ?_; conv => whnf)
      | (refine brK_false rfl ?_; conv => whnf)
      | (refine brK_true (by assumption) ?_; conv => whnf)
      | (refine brK_false (by assumption) ?_; conv => whnf)
      | (refine brK_true ?_ ?_; (focus (simp only [List.length_nil, fx, hw2, List.length_cons, List.length_nil] <;> omega)); conv => whnf)
      | (refine brK_false ?_ ?_; (focus (simp only [List.length_nil, fx, hw2, List.length_cons, List.length_nil] <;> omega)); conv => whnf)
      | ((refine brK_of (fun h => ?_) (fun h => ?_)) <;> (have h2 := h; (try simp only [List.length_nil, fx, hw2, List.length_cons, List.length_nil] at h2); conv => whnf))
      | (refine reqK_of ?_ ?_; (focus (first | decide | omega | assumption | (simp only [List.length_nil, fx, hw2, List.length_cons, List.length_nil] <;> omega) | (simp [keyNew, sameKey, kEq] <;> omega))); conv => whnf)
      | (refine reqK_of ?_ ?_; rotate_left; (conv => whnf); rotate_left)
      | (refine nth_twoB ?_ ?_ ?_; (focus (first | omega | (simp only [List.length_nil, fx, hw2, List.length_cons, List.length_nil] <;> omega))); (focus (first | omega | (simp only [List.length_nil, fx, hw2, List.length_cons, List.length_nil] <;> omega))); conv => whnf)
      | (refine nth_twoA ?_ ?_ ?_; (focus (first | omega | (simp only [List.length_nil, fx, hw2, List.length_cons, List.length_nil] <;> omega))); (focus (first | omega | (simp only [List.length_nil, fx, hw2, List.length_cons, List.length_nil] <;> omega))); conv => whnf)
      | (refine nth_us ?_ ?_ ?_; (focus (first | omega | (simp only [List.length_nil, fx, hw2, List.length_cons, List.length_nil] <;> omega))); (focus (first | omega | (simp only [List.length_nil, fx, hw2, List.length_cons, List.length_nil] <;> omega))); conv => whnf)
      | (refine nth_is ?_ ?_ ?_; (focus (first | omega | (simp only [List.length_nil, fx, hw2, List.length_cons, List.length_nil] <;> omega))); (focus (first | omega | (simp only [List.length_nil, fx, hw2, List.length_cons, List.length_nil] <;> omega))); conv => whnf)
      | (refine nth_bs ?_ ?_ ?_; (focus (first | omega | (simp only [List.length_nil, fx, hw2, List.length_cons, List.length_nil] <;> omega))); (focus (first | omega | (simp only [List.length_nil, fx, hw2, List.length_cons, List.length_nil] <;> omega))); conv => whnf))
    all_goals first
      | (refine loopC (hC (0 + 1) (by omega) (by omega)) ?_
         rw [hw2, hw0]; rfl)
      | (rw [is_len] at hw2
         exfalso; omega)
  · have hw2 : IntKind.i64.wrap (((cat2 l r 1).length : Nat) + ((is r).length : Int)) = ((cat2 l r (1 + 1)).length : Nat) := by
      rw [is_len]
      show IntKind.i64.wrap ((l.length : Int) + _) = ((l ++ r).length : Nat)
      rw [List.length_append, Int.natCast_add]; exact wrap_i64 ⟨by omega, by omega⟩
    conv => whnf
    repeat' (first
      | (refine brK_true rfl ?_; conv => whnf)
      | (refine brK_false rfl ?_; conv => whnf)
      | (refine brK_true (by assumption) ?_; conv => whnf)
      | (refine brK_false (by assumption) ?_; conv => whnf)
      | (refine brK_true ?_ ?_; (focus (simp only [List.length_nil, fx, hw2, List.length_cons, List.length_nil] <;> omega)); conv => whnf)
      | (refine brK_false ?_ ?_; (focus (simp only [List.length_nil, fx, hw2, List.length_cons, List.length_nil] <;> omega)); conv => whnf)
      | ((refine brK_of (fun h => ?_) (fun h => ?_)) <;> (have h2 := h; (try simp only [List.length_nil, fx, hw2, List.length_cons, List.length_nil] at h2); conv => whnf))
      | (refine reqK_of ?_ ?_; (focus (first | decide | omega | assumption | (simp only [List.length_nil, fx, hw2, List.length_cons, List.length_nil] <;> omega) | (simp [keyNew, sameKey, kEq] <;> omega))); conv => whnf)
      | (refine reqK_of ?_ ?_; rotate_left; (conv => whnf); rotate_left)
      | (refine nth_twoB ?_ ?_ ?_; (focus (first | omega | (simp only [List.length_nil, fx, hw2, List.length_cons, List.length_nil] <;> omega))); (focus (first | omega | (simp only [List.length_nil, fx, hw2, List.length_cons, List.length_nil] <;> omega))); conv => whnf)
      | (refine nth_twoA ?_ ?_ ?_; (focus (first | omega | (simp only [List.length_nil, fx, hw2, List.length_cons, List.length_nil] <;> omega))); (focus (first | omega | (simp only [List.length_nil, fx, hw2, List.length_cons, List.length_nil] <;> omega))); conv => whnf)
      | (refine nth_us ?_ ?_ ?_; (focus (first | omega | (simp only [List.length_nil, fx, hw2, List.length_cons, List.length_nil] <;> omega))); (focus (first | omega | (simp only [List.length_nil, fx, hw2, List.length_cons, List.length_nil] <;> omega))); conv => whnf)
      | (refine nth_is ?_ ?_ ?_; (focus (first | omega | (simp only [List.length_nil, fx, hw2, List.length_cons, List.length_nil] <;> omega))); (focus (first | omega | (simp only [List.length_nil, fx, hw2, List.length_cons, List.length_nil] <;> omega))); conv => whnf)
      | (refine nth_bs ?_ ?_ ?_; (focus (first | omega | (simp only [List.length_nil, fx, hw2, List.length_cons, List.length_nil] <;> omega))); (focus (first | omega | (simp only [List.length_nil, fx, hw2, List.length_cons, List.length_nil] <;> omega))); conv => whnf))
    all_goals first
      | (refine loopC (hC (1 + 1) (by omega) (by omega)) ?_
         rw [hw2, hw1]; rfl)
      | (rw [is_len] at hw2
         exfalso; omega)
  · conv => whnf
    repeat' (first
      | (refine brK_true rfl ?_; conv => whnf)
      | (refine brK_false rfl ?_; conv => whnf)
      | (refine brK_true (by assumption) ?_; conv => whnf)
      | (refine brK_false (by assumption) ?_; conv => whnf)
      | (refine brK_true ?_ ?_; (focus (simp only [List.length_nil, fx, List.length_cons, List.length_nil] <;> omega)); conv => whnf)
      | (refine brK_false ?_ ?_; (focus (simp only [List.length_nil, fx, List.length_cons, List.length_nil] <;> omega)); conv => whnf)
      | ((refine brK_of (fun h => ?_) (fun h => ?_)) <;> (have h2 := h; (try simp only [List.length_nil, fx, List.length_cons, List.length_nil] at h2); conv => whnf))
      | (refine reqK_of ?_ ?_; (focus (first | decide | omega | assumption | (simp only [List.length_nil, fx, List.length_cons, List.length_nil] <;> omega) | (simp [keyNew, sameKey, kEq] <;> omega))); conv => whnf)
      | (refine reqK_of ?_ ?_; rotate_left; (conv => whnf); rotate_left)
      | (refine nth_twoB ?_ ?_ ?_; (focus (first | omega | (simp only [List.length_nil, fx, List.length_cons, List.length_nil] <;> omega))); (focus (first | omega | (simp only [List.length_nil, fx, List.length_cons, List.length_nil] <;> omega))); conv => whnf)
      | (refine nth_twoA ?_ ?_ ?_; (focus (first | omega | (simp only [List.length_nil, fx, List.length_cons, List.length_nil] <;> omega))); (focus (first | omega | (simp only [List.length_nil, fx, List.length_cons, List.length_nil] <;> omega))); conv => whnf)
      | (refine nth_us ?_ ?_ ?_; (focus (first | omega | (simp only [List.length_nil, fx, List.length_cons, List.length_nil] <;> omega))); (focus (first | omega | (simp only [List.length_nil, fx, List.length_cons, List.length_nil] <;> omega))); conv => whnf)
      | (refine nth_is ?_ ?_ ?_; (focus (first | omega | (simp only [List.length_nil, fx, List.length_cons, List.length_nil] <;> omega))); (focus (first | omega | (simp only [List.length_nil, fx, List.length_cons, List.length_nil] <;> omega))); conv => whnf)
      | (refine nth_bs ?_ ?_ ?_; (focus (first | omega | (simp only [List.length_nil, fx, List.length_cons, List.length_nil] <;> omega))); (focus (first | omega | (simp only [List.length_nil, fx, List.length_cons, List.length_nil] <;> omega))); conv => whnf))
    refine loopFn [.kill 24, .ren 88 1001] (fun s => [.kill 8, .kill 28, .kill 29, .kill 30, .kill 31, .kill 32, .kill 33, .kill 34, .keep [97], .ren 97 1001]) (fun k : Nat => [(6, .sl 1001 0 none), (27, .t (.int .i64 (k : Int)))]) (fun k => [(1001, .lst 1 (is (cat2 l r k)) 1)]) (fun k => k ≤ 2) (fun k => 2 - k) 0 (Nat.zero_le _) ?_
    conv => whnf
    refine ⟨⟨rfl, rfl⟩, fun j hj D hD => ?_⟩
    have hcj : (cat2 l r j).length ≤ l.length + r.length := by
      unfold cat2; split <;> simp
    clear hC C
    rcases (show j = 0 ∨ j = 1 ∨ j = 2 by omega) with rfl | rfl | rfl
    · have hb1 : ((is (cat2 l r 0)).length + (is l).length) * 8 ≤ maxBytes := by rw [is_len, is_len]; unfold maxBytes; show (0 + l.length) * 8 ≤ _; omega
      conv => whnf
      repeat' (first
        | (refine brK_true rfl ?_; conv => whnf)
        | (refine brK_false rfl ?_; conv => whnf)
        | (refine brK_true (by assumption) ?_; conv => whnf)
        | (refine brK_false (by assumption) ?_; conv => whnf)
        | (refine brK_true ?_ ?_; (focus (simp only [List.length_nil, fx, List.length_cons, List.length_nil] <;> omega)); conv => whnf)
        | (refine brK_false ?_ ?_; (focus (simp only [List.length_nil, fx, List.length_cons, List.length_nil] <;> omega)); conv => whnf)
        | ((refine brK_of (fun h => ?_) (fun h => ?_)) <;> (have h2 := h; (try simp only [List.length_nil, fx, List.length_cons, List.length_nil] at h2); conv => whnf))
        | (refine reqK_of ?_ ?_; (focus (first | decide | omega | assumption | (simp only [List.length_nil, fx, List.length_cons, List.length_nil] <;> omega) | (simp [keyNew, sameKey, kEq] <;> omega))); conv => whnf)
        | (refine reqK_of ?_ ?_; rotate_left; (conv => whnf); rotate_left)
        | (refine nth_twoB ?_ ?_ ?_; (focus (first | omega | (simp only [List.length_nil, fx, List.length_cons, List.length_nil] <;> omega))); (focus (first | omega | (simp only [List.length_nil, fx, List.length_cons, List.length_nil] <;> omega))); conv => whnf)
        | (refine nth_twoA ?_ ?_ ?_; (focus (first | omega | (simp only [List.length_nil, fx, List.length_cons, List.length_nil] <;> omega))); (focus (first | omega | (simp only [List.length_nil, fx, List.length_cons, List.length_nil] <;> omega))); conv => whnf)
        | (refine nth_us ?_ ?_ ?_; (focus (first | omega | (simp only [List.length_nil, fx, List.length_cons, List.length_nil] <;> omega))); (focus (first | omega | (simp only [List.length_nil, fx, List.length_cons, List.length_nil] <;> omega))); conv => whnf)
        | (refine nth_is ?_ ?_ ?_; (focus (first | omega | (simp only [List.length_nil, fx, List.length_cons, List.length_nil] <;> omega))); (focus (first | omega | (simp only [List.length_nil, fx, List.length_cons, List.length_nil] <;> omega))); conv => whnf)
        | (refine nth_bs ?_ ?_ ?_; (focus (first | omega | (simp only [List.length_nil, fx, List.length_cons, List.length_nil] <;> omega))); (focus (first | omega | (simp only [List.length_nil, fx, List.length_cons, List.length_nil] <;> omega))); conv => whnf))
      all_goals first
        | exact hb1
        | (refine loopC (hD (0 + 1) (by omega) (by omega)) ?_
           rw [hw0]; rfl)
        | skip
      all_goals trace_state
    · have hb1 : ((is (cat2 l r 1)).length + (is r).length) * 8 ≤ maxBytes := by rw [is_len, is_len]; unfold maxBytes; show (l.length + r.length) * 8 ≤ _; omega
      conv => whnf
      repeat' (first
        | (refine brK_true rfl ?_; conv => whnf)
        | (refine brK_false rfl ?_; conv => whnf)
        | (refine brK_true (by assumption) ?_; conv => whnf)
        | (refine brK_false (by assumption) ?_; conv => whnf)
        | (refine brK_true ?_ ?_; (focus (simp only [List.length_nil, fx, List.length_cons, List.length_nil] <;> omega)); conv => whnf)
        | (refine brK_false ?_ ?_; (focus (simp only [List.length_nil, fx, List.length_cons, List.length_nil] <;> omega)); conv => whnf)
        | ((refine brK_of (fun h => ?_) (fun h => ?_)) <;> (have h2 := h; (try simp only [List.length_nil, fx, List.length_cons, List.length_nil] at h2); conv => whnf))
        | (refine reqK_of ?_ ?_; (focus (first | decide | omega | assumption | (simp only [List.length_nil, fx, List.length_cons, List.length_nil] <;> omega) | (simp [keyNew, sameKey, kEq] <;> omega))); conv => whnf)
        | (refine reqK_of ?_ ?_; rotate_left; (conv => whnf); rotate_left)
        | (refine nth_twoB ?_ ?_ ?_; (focus (first | omega | (simp only [List.length_nil, fx, List.length_cons, List.length_nil] <;> omega))); (focus (first | omega | (simp only [List.length_nil, fx, List.length_cons, List.length_nil] <;> omega))); conv => whnf)
        | (refine nth_twoA ?_ ?_ ?_; (focus (first | omega | (simp only [List.length_nil, fx, List.length_cons, List.length_nil] <;> omega))); (focus (first | omega | (simp only [List.length_nil, fx, List.length_cons, List.length_nil] <;> omega))); conv => whnf)
        | (refine nth_us ?_ ?_ ?_; (focus (first | omega | (simp only [List.length_nil, fx, List.length_cons, List.length_nil] <;> omega))); (focus (first | omega | (simp only [List.length_nil, fx, List.length_cons, List.length_nil] <;> omega))); conv => whnf)
        | (refine nth_is ?_ ?_ ?_; (focus (first | omega | (simp only [List.length_nil, fx, List.length_cons, List.length_nil] <;> omega))); (focus (first | omega | (simp only [List.length_nil, fx, List.length_cons, List.length_nil] <;> omega))); conv => whnf)
        | (refine nth_bs ?_ ?_ ?_; (focus (first | omega | (simp only [List.length_nil, fx, List.length_cons, List.length_nil] <;> omega))); (focus (first | omega | (simp only [List.length_nil, fx, List.length_cons, List.length_nil] <;> omega))); conv => whnf))
      all_goals first
        | exact hb1
        | (refine loopC (hD (1 + 1) (by omega) (by omega)) ?_
           rw [hw1, show cat2 l r (1 + 1) = l ++ r from rfl, ← is_app]; rfl)
        | skip
      all_goals trace_state
    · conv => whnf
      repeat' (first
        | (refine brK_true rfl ?_; conv => whnf)
        | (refine brK_false rfl ?_; conv => whnf)
        | (refine brK_true (by assumption) ?_; conv => whnf)
        | (refine brK_false (by assumption) ?_; conv => whnf)
        | (refine brK_true ?_ ?_; (focus (simp only [List.length_nil, fx, List.length_cons, List.length_nil] <;> omega)); conv => whnf)
        | (refine brK_false ?_ ?_; (focus (simp only [List.length_nil, fx, List.length_cons, List.length_nil] <;> omega)); conv => whnf)
        | ((refine brK_of (fun h => ?_) (fun h => ?_)) <;> (have h2 := h; (try simp only [List.length_nil, fx, List.length_cons, List.length_nil] at h2); conv => whnf))
        | (refine reqK_of ?_ ?_; (focus (first | decide | omega | assumption | (simp only [List.length_nil, fx, List.length_cons, List.length_nil] <;> omega) | (simp [keyNew, sameKey, kEq] <;> omega))); conv => whnf)
        | (refine reqK_of ?_ ?_; rotate_left; (conv => whnf); rotate_left)
        | (refine nth_twoB ?_ ?_ ?_; (focus (first | omega | (simp only [List.length_nil, fx, List.length_cons, List.length_nil] <;> omega))); (focus (first | omega | (simp only [List.length_nil, fx, List.length_cons, List.length_nil] <;> omega))); conv => whnf)
        | (refine nth_twoA ?_ ?_ ?_; (focus (first | omega | (simp only [List.length_nil, fx, List.length_cons, List.length_nil] <;> omega))); (focus (first | omega | (simp only [List.length_nil, fx, List.length_cons, List.length_nil] <;> omega))); conv => whnf)
        | (refine nth_us ?_ ?_ ?_; (focus (first | omega | (simp only [List.length_nil, fx, List.length_cons, List.length_nil] <;> omega))); (focus (first | omega | (simp only [List.length_nil, fx, List.length_cons, List.length_nil] <;> omega))); conv => whnf)
        | (refine nth_is ?_ ?_ ?_; (focus (first | omega | (simp only [List.length_nil, fx, List.length_cons, List.length_nil] <;> omega))); (focus (first | omega | (simp only [List.length_nil, fx, List.length_cons, List.length_nil] <;> omega))); conv => whnf)
        | (refine nth_bs ?_ ?_ ?_; (focus (first | omega | (simp only [List.length_nil, fx, List.length_cons, List.length_nil] <;> omega))); (focus (first | omega | (simp only [List.length_nil, fx, List.length_cons, List.length_nil] <;> omega))); conv => whnf))
      rw [subL_00, show cat2 l r 2 = l ++ r from rfl, ← is_app]
open Classical in
noncomputable def c58 : List T → Ans
  | [.list 1 [.list 1 xs, .list 1 ys]] => .req ((IsI xs ∧ IsI ys) ∧ (xs.length + ys.length) * 8 ≤ maxBytes) (.list 1 (xs ++ ys))
  | _ => .no
theorem got58 {vs : List T} {x : T} (h : Got (c58 vs) x) : FnOk Try.prog tgl 58 vs x := by
  unfold c58 at h
  split at h
  · obtain ⟨hq, e⟩ := got_req h; rw [e]; exact ok58 _ _ hq
  · exact (got_no h).elim
theorem nogl58 (vs : List T) (p : Prop) (d : Decidable p) (sz : Nat) (xs : List T) (h : c58 vs = @Ans.gl p d sz xs) : False := by
  unfold c58 at h
  split at h <;> cases h
theorem pk58 (vs : List T) (p : Prop) (d : Decidable p) (x : T) (h : c58 vs = @Ans.pk p d x) (hp : p) : FnOk Try.prog tgl 58 vs x := by
  unfold c58 at h
  split at h
  · cases h
  · cases h
end Go.Nx
