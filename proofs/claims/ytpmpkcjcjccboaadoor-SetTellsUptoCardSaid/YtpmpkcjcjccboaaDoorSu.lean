/-
  SETS: THE DOCUMENT's TEXT.
-/
import Derived.Test.YtpmpkcjcjccboaaDoorSt
import Derived.Test.YtpmpkcjcjccboaaDoorSv
import Derived.Test.YtpmpkcjcjccboaaDoorSe
set_option linter.unusedVariables false
set_option linter.unusedSimpArgs false
set_option maxRecDepth 20000
set_option maxHeartbeats 4000000
namespace Go.Nx
open Go.RowKit Go.Proofs

theorem ok39 (n : Int) (hq : 0 ≤ n ∧ n < 100) : FnOk Tryd.prog tgl 39 [.int .u64 n] (.str (dig n)) := by
  obtain ⟨k, rfl⟩ : ∃ k : Nat, n = k := ⟨n.toNat, by omega⟩
  refine ⟨⟨_, Tryd.func39, rfl, by decide⟩, fun S w args hS hgl hsz hrel => ?_⟩
  have hz : args.size = 1 := hsz
  obtain rfl : args = #[.int .u64 (k : Int)] := one_arg hz (by rw [Array.getElem?_eq_getElem (by omega)]; exact congrArg some (RelT.int_of (hrel 0 _ (args[0]'(by omega)) rfl (by simp))))
  refine ((callsIn_wide (n := 3)).1 (Digits_in 3 k (by omega) w)).mono ?_
  rintro e W' ⟨rfl, hb⟩
  exact ⟨_, rfl, .str _, hb⟩
open Classical in
noncomputable def c39 : List T → Ans
  | [.int .u64 n] => .req (0 ≤ n ∧ n < 100) (.str (dig n))
  | _ => .no
theorem got39 {vs : List T} {x : T} (h : Got (c39 vs) x) : FnOk Tryd.prog tgl 39 vs x := by
  unfold c39 at h
  split at h
  · obtain ⟨hq, e⟩ := got_req h; rw [e]; exact ok39 _ hq
  · exact (got_no h).elim
theorem nogl39 (vs : List T) (p : Prop) (d : Decidable p) (sz : Nat) (xs : List T) (h : c39 vs = @Ans.gl p d sz xs) : False := by
  unfold c39 at h
  split at h <;> cases h
theorem pk39 (vs : List T) (p : Prop) (d : Decidable p) (x : T) (h : c39 vs = @Ans.pk p d x) (hp : p) : FnOk Tryd.prog tgl 39 vs x := by
  unfold c39 at h
  split at h
  · cases h
  · cases h
def tj (l : List Int) : ByteArray := ⟨(Lib.join (l.map fun o => (dig o).data.toList) [44]).toArray⟩
theorem tj_nil : tj [] = ⟨#[]⟩ := rfl
theorem tj_one (x : Int) : tj [x] = dig x := by
  unfold tj
  simp [Lib.join]
theorem join_snoc : ∀ (l : List (List UInt8)) (x : List UInt8), l ≠ [] → Lib.join (l ++ [x]) [44] = Lib.join l [44] ++ [44] ++ x
  | [], x, h => absurd rfl h
  | [y], x, h => by simp [Lib.join]
  | y :: z :: r, x, h => by
    have ih := join_snoc (z :: r) x (by simp)
    simp [Lib.join] at ih ⊢
    rw [ih]
theorem tj_snoc {l : List Int} (x : Int) (h : l ≠ []) : tj (l ++ [x]) = tj l ++ ⟨#[44]⟩ ++ dig x := by
  have e : (tj (l ++ [x])).data.toList = (tj l ++ ⟨#[44]⟩ ++ dig x).data.toList := by
    rw [ByteArray.data_append, ByteArray.data_append, Array.toList_append, Array.toList_append]
    unfold tj
    simp only [List.map_append, List.map_cons, List.map_nil]
    rw [join_snoc _ _ (by simpa using h)]
  revert e
  generalize tj (l ++ [x]) = a
  generalize tj l ++ ⟨#[44]⟩ ++ dig x = b
  intro e
  obtain ⟨a⟩ := a
  obtain ⟨b⟩ := b
  congr 1
  exact Array.toList_inj.1 e
theorem nil_app (d : ByteArray) : (⟨#[]⟩ : ByteArray) ++ d = d := by
  have e : ((⟨#[]⟩ : ByteArray) ++ d).data.toList = d.data.toList := by
    rw [ByteArray.data_append, Array.toList_append]; rfl
  revert e
  generalize (⟨#[]⟩ : ByteArray) ++ d = a
  intro e
  obtain ⟨a⟩ := a
  obtain ⟨b⟩ := d
  congr 1
  exact Array.toList_inj.1 e
theorem take_at {l : List Int} {k : Nat} (h : k < l.length) : l.take (k + 1) = l.take k ++ [at0 l (k : Int)] := by
  have e : l[k]? = some (at0 l (k : Int)) := by simp [at0, h]
  rw [List.take_add_one, e]; rfl
theorem tj_ne {l : List Int} (h : ∀ x ∈ l, 1 ≤ x ∧ x ≤ 64) (hn : l ≠ []) : eqS (tj l) ⟨#[]⟩ = false := by
  have hd : ∀ x : Int, 1 ≤ x ∧ x ≤ 64 → (dig x).data.toList ≠ [] := fun x hx => by
    obtain ⟨k, rfl⟩ : ∃ k : Nat, x = k := ⟨x.toNat, by omega⟩
    have : ∀ k : Nat, k < 65 → (dig (k : Int)).data.toList ≠ [] := by decide +kernel
    exact this k (by omega)
  have e : (tj l).data.toList ≠ [] := by
    unfold tj
    match l, hn with
    | [x], _ => simpa [Lib.join] using hd x (h x (by simp))
    | x :: y :: r, _ => simp [Lib.join]
  cases hc : eqS (tj l) ⟨#[]⟩
  · rfl
  · exfalso
    unfold eqS at hc
    apply e
    have := beq_iff_eq.1 hc
    rw [ByteArray.toList_eq, ByteArray.toList_eq] at this
    exact this
theorem tj_size {l : List Int} (h : ∀ x ∈ l, 1 ≤ x ∧ x ≤ 64) : (tj l).size ≤ l.length * 3 := by
  have h1 := join_le (l.map fun o => (dig o).data.toList) 2 fun x hx => by
    obtain ⟨o, ho, rfl⟩ := List.mem_map.1 hx
    exact dig_len (h o ho)
  have e : (tj l).size = (Lib.join (l.map fun o => (dig o).data.toList) [44]).length := by unfold tj; simp [ByteArray.size]
  rw [List.length_map] at h1
  omega
noncomputable def lE7 : List (Nat × (List T → Ans)) := (17, c17) :: (19, c19) :: (26, c26) :: (22, c22) :: (39, c39) :: lE6
noncomputable def iE7 : List (Nat × Pt) := iE6
noncomputable abbrev E7 : Env := En tgl lE7 iE7
theorem env_E7 : EnvOk Tryd.prog E7 := (env_fn (env_fn (env_fn (env_fn (env_fn env_E6 (fun _ _ => got39) (fun vs p d sz xs h _ => (nogl39 vs p d sz xs h).elim) pk39) (fun _ _ => got22) (fun vs p d sz xs h _ => (nogl22 vs p d sz xs h).elim) pk22) (fun _ _ => got26) (fun vs p d sz xs h _ => (nogl26 vs p d sz xs h).elim) pk26) (fun _ _ => got19) (fun vs p d sz xs h _ => (nogl19 vs p d sz xs h).elim) pk19) (fun _ _ => got17) (fun vs p d sz xs h _ => (nogl17 vs p d sz xs h).elim) pk17)
theorem ok30 (s : Int) (hq : R64 s) : FnOk Tryd.prog tgl 30 [.int .u64 s] (.str (txt (bv s))) := by
  refine fn_ok (Γ := E7) env_E7 Tryd.func30 low30 ?_
  have hlb := lsL_len (bv s)
  conv => whnf
  repeat' (first
    | (refine brK_true rfl ?_; conv => whnf)
    | (refine brK_false rfl ?_; conv => whnf)
    | (refine brK_true (by assumption) ?_; conv => whnf)
    | (refine brK_false (by assumption) ?_; conv => whnf)
    | (refine brK_true ?_ ?_; (focus (simp only [List.length_nil, fx] <;> omega)); conv => whnf)
    | (refine brK_false ?_ ?_; (focus (simp only [List.length_nil, fx] <;> omega)); conv => whnf)
    | ((refine brK_of (fun h => ?_) (fun h => ?_)) <;> (have h2 := h; (try simp only [List.length_nil, fx] at h2); conv => whnf))
    | (refine reqK_of ?_ ?_; (focus (first | decide | omega | assumption | (simp only [List.length_nil, fx] <;> omega) | (simp [keyNew, sameKey, kEq] <;> omega))); conv => whnf)
    | (refine reqK_of ?_ ?_; rotate_left; (conv => whnf); rotate_left)
    | (refine nth_us ?_ ?_ ?_; (focus (first | omega | (simp only [List.length_nil, fx] <;> omega))); (focus (first | omega | (simp only [List.length_nil, fx] <;> omega))); conv => whnf)
    | (refine nth_is ?_ ?_ ?_; (focus (first | omega | (simp only [List.length_nil, fx] <;> omega))); (focus (first | omega | (simp only [List.length_nil, fx] <;> omega))); conv => whnf)
    | (refine nth_bs ?_ ?_ ?_; (focus (first | omega | (simp only [List.length_nil, fx] <;> omega))); (focus (first | omega | (simp only [List.length_nil, fx] <;> omega))); conv => whnf))
  refine loopUp [] [.kill 8, .kill 9, .kill 10, .kill 11, .kill 12, .kill 13, .kill 14, .kill 15, .kill 16, .kill 17, .kill 18, .kill 19, .kill 20, .kill 21, .kill 22, .kill 23, .kill 24, .kill 25] (fun k : Nat => [(4, .t (.str (tj ((lsL (bv s)).take k)))), (5, .t (.int .i64 (k : Int)))]) (fun _ => []) (fun k => k ≤ (lsL (bv s)).length) (fun k => (lsL (bv s)).length - k) 0 (Nat.zero_le _) ?_
  conv => whnf
  refine ⟨⟨rfl, rfl⟩, fun k hk C hC => ?_⟩
  have hw : IntKind.i64.wrap ((k : Int) + 1) = (k : Int) + 1 := wrap_i64 ⟨by omega, by omega⟩
  have hr : ∀ x ∈ lsL (bv s), 1 ≤ x ∧ x ≤ 64 := fun x hx => has_range (mem_lsL.1 hx)
  have hx : k < (lsL (bv s)).length → 1 ≤ at0 (lsL (bv s)) (k : Int) ∧ at0 (lsL (bv s)) (k : Int) ≤ 64 := fun h => hr _ (at0_mem (by simpa using h))
  have hwx : k < (lsL (bv s)).length → IntKind.u64.wrap (at0 (lsL (bv s)) (k : Int)) = at0 (lsL (bv s)) (k : Int) := fun h => wrap_u64 (by have := hx h; unfold R64; omega)
  have hts : (tj ((lsL (bv s)).take k)).size ≤ 192 := by
    have := tj_size (l := (lsL (bv s)).take k) (fun x hx => hr x (List.mem_of_mem_take hx))
    rw [List.length_take] at this; omega
  have hds : k < (lsL (bv s)).length → (dig (at0 (lsL (bv s)) (k : Int))).size ≤ 2 := fun h => by
    have := dig_len (hx h)
    show (dig _).data.size ≤ 2
    rw [← Array.length_toList]; exact this
  have e1 : (⟨#[44]⟩ : ByteArray).size = 1 := rfl
  conv => whnf
  repeat' (first
    | (refine brK_true rfl ?_; conv => whnf)
    | (refine brK_false rfl ?_; conv => whnf)
    | (refine brK_true (by assumption) ?_; conv => whnf)
    | (refine brK_false (by assumption) ?_; conv => whnf)
    | (refine brK_true ?_ ?_; (focus (simp only [List.length_nil, fx] <;> omega)); conv => whnf)
    | (refine brK_false ?_ ?_; (focus (simp only [List.length_nil, fx] <;> omega)); conv => whnf)
    | ((refine brK_of (fun h => ?_) (fun h => ?_)) <;> (have h2 := h; (try simp only [List.length_nil, fx] at h2); conv => whnf))
    | (refine reqK_of ?_ ?_; (focus (first | decide | omega | assumption | (simp only [List.length_nil, fx] <;> omega) | (simp [keyNew, sameKey, kEq] <;> omega))); conv => whnf)
    | (refine reqK_of ?_ ?_; rotate_left; (conv => whnf); rotate_left)
    | (refine nth_us ?_ ?_ ?_; (focus (first | omega | (simp only [List.length_nil, fx] <;> omega))); (focus (first | omega | (simp only [List.length_nil, fx] <;> omega))); conv => whnf)
    | (refine nth_is ?_ ?_ ?_; (focus (first | omega | (simp only [List.length_nil, fx] <;> omega))); (focus (first | omega | (simp only [List.length_nil, fx] <;> omega))); conv => whnf)
    | (refine nth_bs ?_ ?_ ?_; (focus (first | omega | (simp only [List.length_nil, fx] <;> omega))); (focus (first | omega | (simp only [List.length_nil, fx] <;> omega))); conv => whnf))
  all_goals try (rw [hwx (by omega), ByteArray.size_append, e1]; have := hds (by omega); omega)
  all_goals try (rw [hwx (by omega)]; have := hds (by omega); omega)
  all_goals try (rw [hwx (by omega)]; have := hx (by omega); omega)
  · refine loopC (hC (k + 1) (by omega) (by omega)) ?_
    rw [hw, hwx (by omega), take_at (by omega), tj_snoc _ (by intro e; have := congrArg List.length e; rw [List.length_take, List.length_nil] at this; omega), Int.natCast_succ]
    rfl
  · refine loopC (hC (k + 1) (by omega) (by omega)) ?_
    obtain rfl : k = 0 := by omega
    rw [hw, hwx (by omega), take_at (by omega), List.take_zero, List.nil_append, tj_one, tj_nil, nil_app, Int.natCast_succ]
    rfl
  · by_cases hl : lsL (bv s) = []
    · rw [txt_nil hl]
    · rw [List.take_of_length_le (by omega), tj_ne hr hl] at h2; cases h2
  · have e : (lsL (bv s)).take k = lsL (bv s) := List.take_of_length_le (by omega)
    by_cases hl : lsL (bv s) = []
    · exfalso; rw [e, hl] at h2; revert h2; unfold eqS; decide +kernel
    · rw [e, txt_cons hl]; rfl
open Classical in
noncomputable def c30 : List T → Ans
  | [.int .u64 s] => .req (R64 s) (.str (txt (bv s)))
  | _ => .no
theorem got30 {vs : List T} {x : T} (h : Got (c30 vs) x) : FnOk Tryd.prog tgl 30 vs x := by
  unfold c30 at h
  split at h
  · obtain ⟨hq, e⟩ := got_req h; rw [e]; exact ok30 _ hq
  · exact (got_no h).elim
theorem nogl30 (vs : List T) (p : Prop) (d : Decidable p) (sz : Nat) (xs : List T) (h : c30 vs = @Ans.gl p d sz xs) : False := by
  unfold c30 at h
  split at h <;> cases h
theorem pk30 (vs : List T) (p : Prop) (d : Decidable p) (x : T) (h : c30 vs = @Ans.pk p d x) (hp : p) : FnOk Tryd.prog tgl 30 vs x := by
  unfold c30 at h
  split at h
  · cases h
  · cases h
end Go.Nx
