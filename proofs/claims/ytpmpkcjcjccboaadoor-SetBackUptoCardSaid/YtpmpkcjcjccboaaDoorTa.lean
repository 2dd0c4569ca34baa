/-
  SETS: set.Parse.
-/
import Derived.Test.YtpmpkcjcjccboaaDoorSz
set_option linter.unusedVariables false
set_option linter.unusedSimpArgs false
set_option maxRecDepth 20000
set_option maxHeartbeats 4000000
namespace Go.Nx
open Go.RowKit Go.Proofs

noncomputable def lE9 : List (Nat × (List T → Ans)) := (40, c40) :: lE8
noncomputable def iE9 : List (Nat × Pt) := iE8
noncomputable abbrev E9 : Env := En tgl lE9 iE9
theorem env_E9 : EnvOk Tryd.prog E9 := (env_fn env_E8 (fun _ _ => got40) gl40 pk40)
theorem ok31 (s u : ByteArray) (hq : s.size ≤ 1048576 ∧ u = ⟨#[sep1 u]⟩) : FnGl Tryd.prog tgl 31 [.str s, .str u] 1 (ss (spl (sep1 u) s.data.toList)) := by
  refine fnG_ok (Γ := E9) env_E9 Tryd.func31 low31 ?_
  conv => whnf
  repeat' (first
    | (refine brK_true rfl ?_; conv => whnf)
    | (refine brK_false rfl ?_; conv => whnf)
    | (refine brK_true (by assumption) ?_; conv => whnf)
    | (refine brK_false (by assumption) ?_; conv => whnf)
    | (refine brK_true ?_ ?_; (focus (simp only [List.length_nil, fx] <;> omega)); conv => whnf)
    | (refine brK_false ?_ ?_; (focus (simp only [List.length_nil, fx] <;> omega)); conv => whnf)
    | ((refine brK_of (fun h => ?_) (fun h => ?_)) <;> (have h2 := h; (try simp only [List.length_nil, fx] at h2); conv => whnf))
    | (refine reqK_of ?_ ?_; (focus (first | decide | omega | assumption | (simp only [List.length_nil, fx] <;> omega) | (simp [keyNew, sameKey, kEq] <;> omega))); conv => whnf)
    | (refine reqK_of ?_ ?_; rotate_left; (conv => whnf); rotate_left)
    | (refine nth_us ?_ ?_ ?_; (focus (first | omega | (simp only [List.length_nil, fx] <;> omega))); (focus (first | omega | (simp only [List.length_nil, fx] <;> omega))); conv => whnf)
    | (refine nth_is ?_ ?_ ?_; (focus (first | omega | (simp only [List.length_nil, fx] <;> omega))); (focus (first | omega | (simp only [List.length_nil, fx] <;> omega))); conv => whnf)
    | (refine nth_bs ?_ ?_ ?_; (focus (first | omega | (simp only [List.length_nil, fx] <;> omega))); (focus (first | omega | (simp only [List.length_nil, fx] <;> omega))); conv => whnf))
  all_goals trace_state
open Classical in
noncomputable def c31 : List T → Ans
  | [.str s, .str u] => .gl (s.size ≤ 1048576 ∧ u = ⟨#[sep1 u]⟩) 1 (ss (spl (sep1 u) s.data.toList))
  | _ => .no
theorem got31 {vs : List T} {x : T} (h : Got (c31 vs) x) : FnOk Tryd.prog tgl 31 vs x := by
  unfold c31 at h
  split at h
  · exact (got_gl h).elim
  · exact (got_no h).elim
theorem gl31 (vs : List T) (p : Prop) (d : Decidable p) (sz : Nat) (xs : List T) (h : c31 vs = @Ans.gl p d sz xs) (hp : p) : FnGl Tryd.prog tgl 31 vs sz xs := by
  unfold c31 at h
  split at h
  · cases h; exact ok31 _ _ hp
  · cases h
theorem pk31 (vs : List T) (p : Prop) (d : Decidable p) (x : T) (h : c31 vs = @Ans.pk p d x) (hp : p) : FnOk Tryd.prog tgl 31 vs x := by
  unfold c31 at h
  split at h <;> cases h
/-- the error beside the number -/
def atoiX (s : ByteArray) : T := match Lib.atoiAll s.data.toList with
  | .ok n => .nilif
  | .range => .ifc 79 (.ref [.str ⟨#[65, 116, 111, 105]⟩, .str s, errR])
  | _ => .ifc 79 (.ref [.str ⟨#[65, 116, 111, 105]⟩, .str s, errS])
theorem atoiA_tup (s : ByteArray) : atoiA s = .tup [.int .i64 (atoiN s.data.toList), atoiX s] := by
  unfold atoiA atoiX atoiN
  cases Lib.atoiAll s.data.toList <;> rfl
theorem ok32 (s : ByteArray) (hq : s.size ≤ 281474976710656) : FnOk Tryd.prog tgl 32 [.str s] (.tup [.int .i64 (atoiN s.data.toList), atoiX s]) := by
  rw [← atoiA_tup]; exact okA s hq
open Classical in
noncomputable def c32 : List T → Ans
  | [.str s] => .req (s.size ≤ 281474976710656) (.tup [.int .i64 (atoiN s.data.toList), atoiX s])
  | _ => .no
theorem got32 {vs : List T} {x : T} (h : Got (c32 vs) x) : FnOk Tryd.prog tgl 32 vs x := by
  unfold c32 at h
  split at h
  · obtain ⟨hq, e⟩ := got_req h; rw [e]; exact ok32 _ hq
  · exact (got_no h).elim
theorem nogl32 (vs : List T) (p : Prop) (d : Decidable p) (sz : Nat) (xs : List T) (h : c32 vs = @Ans.gl p d sz xs) : False := by
  unfold c32 at h
  split at h <;> cases h
theorem pk32 (vs : List T) (p : Prop) (d : Decidable p) (x : T) (h : c32 vs = @Ans.pk p d x) (hp : p) : FnOk Tryd.prog tgl 32 vs x := by
  unfold c32 at h
  split at h
  · cases h
  · cases h
theorem ok29 (s : Int) (hq : R64 s) : FnOk Tryd.prog tgl 29 [.int .u64 s] (.str (txt (bv s))) := by
  exact okTxt s hq
open Classical in
noncomputable def c29 : List T → Ans
  | [.int .u64 s] => .req (R64 s) (.str (txt (bv s)))
  | _ => .no
theorem got29 {vs : List T} {x : T} (h : Got (c29 vs) x) : FnOk Tryd.prog tgl 29 vs x := by
  unfold c29 at h
  split at h
  · obtain ⟨hq, e⟩ := got_req h; rw [e]; exact ok29 _ hq
  · exact (got_no h).elim
theorem nogl29 (vs : List T) (p : Prop) (d : Decidable p) (sz : Nat) (xs : List T) (h : c29 vs = @Ans.gl p d sz xs) : False := by
  unfold c29 at h
  split at h <;> cases h
theorem pk29 (vs : List T) (p : Prop) (d : Decidable p) (x : T) (h : c29 vs = @Ans.pk p d x) (hp : p) : FnOk Tryd.prog tgl 29 vs x := by
  unfold c29 at h
  split at h
  · cases h
  · cases h
noncomputable def lE10 : List (Nat × (List T → Ans)) := (31, c31) :: (32, c32) :: (29, c29) :: (14, c14) :: lE8
noncomputable def iE10 : List (Nat × Pt) := iE8
noncomputable abbrev E10 : Env := En tgl lE10 iE10
theorem env_E10 : EnvOk Tryd.prog E10 := (env_fn (env_fn (env_fn (env_fn env_E8 (fun _ _ => got14) (fun vs p d sz xs h _ => (nogl14 vs p d sz xs h).elim) pk14) (fun _ _ => got29) (fun vs p d sz xs h _ => (nogl29 vs p d sz xs h).elim) pk29) (fun _ _ => got32) (fun vs p d sz xs h _ => (nogl32 vs p d sz xs h).elim) pk32) (fun _ _ => got31) gl31 pk31)
def psk (t : ByteArray) (k : Nat) : B := ((spl 44 t.data.toList).take k).foldl (fun s w => add s (atoiN w)) 0
theorem psk_succ {t : ByteArray} {k : Nat} (h : k < (spl 44 t.data.toList).length) : psk t (k + 1) = add (psk t k) (atoiN (atB (spl 44 t.data.toList) (k : Int))) := by
  unfold psk atB
  rw [List.take_add_one, List.foldl_append, Int.toNat_natCast, List.getD_eq_getElem?_getD, List.getElem?_eq_getElem h]
  rfl
theorem psk_all {t : ByteArray} {k : Nat} (h : (spl 44 t.data.toList).length ≤ k) : psk t k = pset t := by
  unfold psk pset; rw [List.take_of_length_le h]
theorem spl_piece (c : UInt8) : ∀ {l p : List UInt8}, p ∈ spl c l → p.length ≤ l.length
  | [], p, h => by simp [spl] at h; subst h; simp
  | b :: l, p, h => by
    by_cases hb : b = c
    · rw [spl, if_pos hb] at h
      rcases List.mem_cons.1 h with rfl | h
      · simp
      · have := spl_piece c (l := l) h; simp; omega
    · rw [spl, if_neg hb] at h
      rcases List.mem_cons.1 h with rfl | h
      · have := spl_piece c (l := l) (p := (spl c l).headD []) (by rw [← spl_head_tail c l]; simp)
        rw [List.length_cons, List.length_cons]; omega
      · have := spl_piece c (l := l) (List.mem_of_mem_tail h); simp; omega
theorem atB_len {c : UInt8} {l : List UInt8} {k : Nat} (h : k < (spl c l).length) : (atB (spl c l) (k : Int)).length ≤ l.length := by
  refine spl_piece c ?_
  unfold atB
  rw [Int.toNat_natCast, List.getD_eq_getElem?_getD, List.getElem?_eq_getElem h]
  exact List.getElem_mem h
theorem ok10 (t : ByteArray) (hq : t.size ≤ 1048576) : FnOk Tryd.prog tgl 10 [.str t] (.tup [.int .u64 (pSet t), .int .i64 (pErr t)]) := by
  refine fn_ok (Γ := E10) env_E10 Tryd.func10 low10 ?_
  have hl := spl_len 44 t.data.toList
  have hc : t.data.toList.count 44 ≤ t.size := by have := List.count_le_length (a := (44 : UInt8)) (l := t.data.toList); rw [Array.length_toList] at this; exact this
  conv => whnf
  repeat' (first
    | (refine brK_true rfl ?_; conv => whnf)
    | (refine brK_false rfl ?_; conv => whnf)
    | (refine brK_true (by assumption) ?_; conv => whnf)
    | (refine brK_false (by assumption) ?_; conv => whnf)
    | (refine brK_true ?_ ?_; (focus (simp only [List.length_nil, fx] <;> omega)); conv => whnf)
    | (refine brK_false ?_ ?_; (focus (simp only [List.length_nil, fx] <;> omega)); conv => whnf)
    | ((refine brK_of (fun h => ?_) (fun h => ?_)) <;> (have h2 := h; (try simp only [List.length_nil, fx] at h2); conv => whnf))
    | (refine reqK_of ?_ ?_; (focus (first | decide | omega | assumption | (simp only [List.length_nil, fx] <;> omega) | (simp [keyNew, sameKey, kEq] <;> omega))); conv => whnf)
    | (refine reqK_of ?_ ?_; rotate_left; (conv => whnf); rotate_left)
    | (refine nth_us ?_ ?_ ?_; (focus (first | omega | (simp only [List.length_nil, fx] <;> omega))); (focus (first | omega | (simp only [List.length_nil, fx] <;> omega))); conv => whnf)
    | (refine nth_is ?_ ?_ ?_; (focus (first | omega | (simp only [List.length_nil, fx] <;> omega))); (focus (first | omega | (simp only [List.length_nil, fx] <;> omega))); conv => whnf)
    | (refine nth_bs ?_ ?_ ?_; (focus (first | omega | (simp only [List.length_nil, fx] <;> omega))); (focus (first | omega | (simp only [List.length_nil, fx] <;> omega))); conv => whnf))
  · exact ⟨hq, rfl⟩
  refine loopUp [] [.kill 6, .kill 7, .kill 8, .kill 13, .kill 14, .kill 15, .kill 16, .kill 17, .kill 18, .kill 19, .kill 20, .kill 21, .kill 22, .kill 23, .kill 24] (fun k : Nat => [(4, .t (.int .u64 (iv (psk t k)))), (12, .t (.int .i64 (k : Int)))]) (fun _ => []) (fun k => k ≤ (spl 44 t.data.toList).length) (fun k => (spl 44 t.data.toList).length - k) 0 (Nat.zero_le _) ?_
  conv => whnf
  refine ⟨⟨rfl, rfl⟩, fun k hk C hC => ?_⟩
  have hw : IntKind.i64.wrap ((k : Int) + 1) = (k : Int) + 1 := wrap_i64 ⟨by omega, by omega⟩
  have hR := R_iv (psk t k)
  conv => whnf
  repeat' (first
    | (refine brK_true rfl ?_; conv => whnf)
    | (refine brK_false rfl ?_; conv => whnf)
    | (refine brK_true (by assumption) ?_; conv => whnf)
    | (refine brK_false (by assumption) ?_; conv => whnf)
    | (refine brK_true ?_ ?_; (focus (simp only [List.length_nil, fx, ss_len] <;> omega)); conv => whnf)
    | (refine brK_false ?_ ?_; (focus (simp only [List.length_nil, fx, ss_len] <;> omega)); conv => whnf)
    | ((refine brK_of (fun h => ?_) (fun h => ?_)) <;> (have h2 := h; (try simp only [List.length_nil, fx, ss_len] at h2); conv => whnf))
    | (refine reqK_of ?_ ?_; (focus (first | decide | omega | assumption | (simp only [List.length_nil, fx, ss_len] <;> omega) | (simp [keyNew, sameKey, kEq] <;> omega))); conv => whnf)
    | (refine reqK_of ?_ ?_; rotate_left; (conv => whnf); rotate_left)
    | (refine nth_ss ?_ ?_ ?_; (focus (first | omega | (simp only [List.length_nil, fx, ss_len] <;> omega))); (focus (first | omega | (simp only [List.length_nil, fx, ss_len] <;> omega))); conv => whnf)
    | (refine nth_us ?_ ?_ ?_; (focus (first | omega | (simp only [List.length_nil, fx, ss_len] <;> omega))); (focus (first | omega | (simp only [List.length_nil, fx, ss_len] <;> omega))); conv => whnf)
    | (refine nth_is ?_ ?_ ?_; (focus (first | omega | (simp only [List.length_nil, fx, ss_len] <;> omega))); (focus (first | omega | (simp only [List.length_nil, fx, ss_len] <;> omega))); conv => whnf)
    | (refine nth_bs ?_ ?_ ?_; (focus (first | omega | (simp only [List.length_nil, fx, ss_len] <;> omega))); (focus (first | omega | (simp only [List.length_nil, fx, ss_len] <;> omega))); conv => whnf))
  · show (atB (spl 44 t.data.toList) (k : Int)).toArray.size ≤ _
    have h3 : k < (spl 44 t.data.toList).length := by have : (k : Int) < ((spl 44 t.data.toList).length : Int) := h2; omega
    have := atB_len h3
    rw [List.size_toArray]
    rw [Array.length_toList] at this
    exact Nat.le_trans this (Nat.le_trans hq (by decide))
  · have h3 : k < (spl 44 t.data.toList).length := by have : (k : Int) < ((spl 44 t.data.toList).length : Int) := h2; omega
    refine loopC (hC (k + 1) (by omega) (by omega)) ?_
    rw [hw, bv_iv, psk_succ h3, Int.natCast_succ]
    rfl
  · rename_i _ h4
    have h3 : (spl 44 t.data.toList).length ≤ k := by have : ((spl 44 t.data.toList).length : Int) ≤ (k : Int) := h4; omega
    rw [bv_iv, psk_all h3] at h2
    refine Eq.trans ?_ (pans_tup t)
    unfold pans
    rw [if_neg fun e => by rw [eqS_iff.2 e] at h2; cases h2]
  · rename_i _ h4
    have h3 : (spl 44 t.data.toList).length ≤ k := by have : ((spl 44 t.data.toList).length : Int) ≤ (k : Int) := h4; omega
    rw [bv_iv, psk_all h3] at h2
    refine Eq.trans ?_ (pans_tup t)
    unfold pans
    rw [if_pos (eqS_iff.1 h2), psk_all h3]
open Classical in
noncomputable def c10 : List T → Ans
  | [.str t] => .req (t.size ≤ 1048576) (.tup [.int .u64 (pSet t), .int .i64 (pErr t)])
  | _ => .no
theorem got10 {vs : List T} {x : T} (h : Got (c10 vs) x) : FnOk Tryd.prog tgl 10 vs x := by
  unfold c10 at h
  split at h
  · obtain ⟨hq, e⟩ := got_req h; rw [e]; exact ok10 _ hq
  · exact (got_no h).elim
theorem nogl10 (vs : List T) (p : Prop) (d : Decidable p) (sz : Nat) (xs : List T) (h : c10 vs = @Ans.gl p d sz xs) : False := by
  unfold c10 at h
  split at h <;> cases h
theorem pk10 (vs : List T) (p : Prop) (d : Decidable p) (x : T) (h : c10 vs = @Ans.pk p d x) (hp : p) : FnOk Tryd.prog tgl 10 vs x := by
  unfold c10 at h
  split at h
  · cases h
  · cases h
theorem txt_small (s : B) : (txt s).size ≤ 1048576 := by
  have h2 := lsL_len s
  by_cases h : lsL s = []
  · rw [txt_nil h]; decide
  · have h1 := join_le ((lsL s).map fun o => (dig o).data.toList) 2 fun x hx => by
      obtain ⟨o, ho, rfl⟩ := List.mem_map.1 hx
      exact dig_len (lsL_range o ho)
    rw [List.length_map] at h1
    rw [txt_cons h]
    show (List.toArray _).size ≤ _
    rw [List.size_toArray]
    omega
noncomputable def lE11 : List (Nat × (List T → Ans)) := (10, c10) :: (11, c11) :: (9, c9) :: lE10
noncomputable def iE11 : List (Nat × Pt) := iE10
noncomputable abbrev E11 : Env := En tgl lE11 iE11
theorem env_E11 : EnvOk Tryd.prog E11 := (env_fn (env_fn (env_fn env_E10 (fun _ _ => got9) (fun vs p d sz xs h _ => (nogl9 vs p d sz xs h).elim) pk9) (fun _ _ => got11) (fun vs p d sz xs h _ => (nogl11 vs p d sz xs h).elim) pk11) (fun _ _ => got10) (fun vs p d sz xs h _ => (nogl10 vs p d sz xs h).elim) pk10)
theorem ok7 (s : Int) (t : ByteArray) (hq : R64 s ∧ t.size ≤ 1048576) : FnOk Tryd.prog tgl 7 [.int .u64 s, .str t] (.bool true) := by
  refine fn_ok (Γ := E11) env_E11 Tryd.func7 low7 ?_
  obtain ⟨h0, ht⟩ := hq
  obtain ⟨b, rfl⟩ := exists_iv h0
  have hsz : (txt b).size ≤ 1048576 := txt_small b
  have hp := p_txt b
  have hc := p_cases t
  have hR : R64 (pSet t) := by
    rcases hc with ⟨_, s, e, _⟩ | ⟨_, e⟩
    · rw [e]; exact R_iv _
    · rw [e]; unfold R64; omega
  conv => whnf
  repeat' (first
    | (refine brK_true rfl ?_; conv => whnf)
    | (refine brK_false rfl ?_; conv => whnf)
    | (refine brK_true (by assumption) ?_; conv => whnf)
    | (refine brK_false (by assumption) ?_; conv => whnf)
    | (refine brK_true ?_ ?_; (focus (simp only [List.length_nil, fx] <;> omega)); conv => whnf)
    | (refine brK_false ?_ ?_; (focus (simp only [List.length_nil, fx] <;> omega)); conv => whnf)
    | ((refine brK_of (fun h => ?_) (fun h => ?_)) <;> (have h2 := h; (try simp only [List.length_nil, fx] at h2); conv => whnf))
    | (refine reqK_of ?_ ?_; (focus (first | decide | omega | assumption | (simp only [List.length_nil, fx] <;> omega) | (simp [keyNew, sameKey, kEq] <;> omega))); conv => whnf)
    | (refine reqK_of ?_ ?_; rotate_left; (conv => whnf); rotate_left)
    | (refine nth_us ?_ ?_ ?_; (focus (first | omega | (simp only [List.length_nil, fx] <;> omega))); (focus (first | omega | (simp only [List.length_nil, fx] <;> omega))); conv => whnf)
    | (refine nth_is ?_ ?_ ?_; (focus (first | omega | (simp only [List.length_nil, fx] <;> omega))); (focus (first | omega | (simp only [List.length_nil, fx] <;> omega))); conv => whnf)
    | (refine nth_bs ?_ ?_ ?_; (focus (first | omega | (simp only [List.length_nil, fx] <;> omega))); (focus (first | omega | (simp only [List.length_nil, fx] <;> omega))); conv => whnf))
  all_goals try simp only [bv_iv] at *
  · have hq2 : eqS (txt (bv (pSet t))) t = false := by assumption
    have h03 : pErr t = 0 := by assumption
    exfalso
    rcases hc with ⟨_, s, e, h5⟩ | ⟨e, _⟩
    · rw [e, bv_iv, eqS_iff.2 h5] at hq2; cases hq2
    · omega
  · have hn : pErr t ≠ 0 := by assumption
    rcases hc with ⟨e, _⟩ | ⟨_, e⟩
    · exact absurd e hn
    · rw [e, eqI_def]; rfl
  · have hn : ¬ pSet (txt b) = iv b := by assumption
    exact absurd hp.1 hn
  · have hn : ¬ pErr (txt b) = 0 := by assumption
    exact absurd hp.2 hn
open Classical in
noncomputable def c7 : List T → Ans
  | [.int .u64 s, .str t] => .req (R64 s ∧ t.size ≤ 1048576) (.bool true)
  | _ => .no
theorem got7 {vs : List T} {x : T} (h : Got (c7 vs) x) : FnOk Tryd.prog tgl 7 vs x := by
  unfold c7 at h
  split at h
  · obtain ⟨hq, e⟩ := got_req h; rw [e]; exact ok7 _ _ hq
  · exact (got_no h).elim
theorem nogl7 (vs : List T) (p : Prop) (d : Decidable p) (sz : Nat) (xs : List T) (h : c7 vs = @Ans.gl p d sz xs) : False := by
  unfold c7 at h
  split at h <;> cases h
theorem pk7 (vs : List T) (p : Prop) (d : Decidable p) (x : T) (h : c7 vs = @Ans.pk p d x) (hp : p) : FnOk Tryd.prog tgl 7 vs x := by
  unfold c7 at h
  split at h
  · cases h
  · cases h
theorem eqB_self (b : Bool) : eqB b b = true := by rw [eqB_def]; cases b <;> rfl
theorem ok3 (a b o : Int) (xs : List T) (t : ByteArray) (hq : (R64 a ∧ R64 b) ∧ (IsI xs ∧ Sz xs) ∧ t.size ≤ 1048576) : FnOk Tryd.prog tgl 3 [.int .u64 a, .int .u64 b, .int .i64 o, .list 1 xs, .str t] (.bool true) := by
  refine fn_ok (Γ := E11) env_E11 Tryd.func3 low3 ?_
  obtain ⟨⟨ha, hb⟩, ⟨hi, hs⟩, ht⟩ := hq
  have hpd := pS_dS t
  conv => whnf
  repeat' (first
    | (refine brK_true rfl ?_; conv => whnf)
    | (refine brK_false rfl ?_; conv => whnf)
    | (refine brK_true (by assumption) ?_; conv => whnf)
    | (refine brK_false (by assumption) ?_; conv => whnf)
    | (refine brK_true ?_ ?_; (focus (simp only [List.length_nil, fx] <;> omega)); conv => whnf)
    | (refine brK_false ?_ ?_; (focus (simp only [List.length_nil, fx] <;> omega)); conv => whnf)
    | ((refine brK_of (fun h => ?_) (fun h => ?_)) <;> (have h2 := h; (try simp only [List.length_nil, fx] at h2); conv => whnf))
    | (refine reqK_of ?_ ?_; (focus (first | decide | omega | assumption | (simp only [List.length_nil, fx] <;> omega) | (simp [keyNew, sameKey, kEq] <;> omega))); conv => whnf)
    | (refine reqK_of ?_ ?_; rotate_left; (conv => whnf); rotate_left)
    | (refine nth_us ?_ ?_ ?_; (focus (first | omega | (simp only [List.length_nil, fx] <;> omega))); (focus (first | omega | (simp only [List.length_nil, fx] <;> omega))); conv => whnf)
    | (refine nth_is ?_ ?_ ?_; (focus (first | omega | (simp only [List.length_nil, fx] <;> omega))); (focus (first | omega | (simp only [List.length_nil, fx] <;> omega))); conv => whnf)
    | (refine nth_bs ?_ ?_ ?_; (focus (first | omega | (simp only [List.length_nil, fx] <;> omega))); (focus (first | omega | (simp only [List.length_nil, fx] <;> omega))); conv => whnf))
  · rw [eqB_self] at h2; cases h2
  · exact ⟨hi, hs⟩
  · exact ⟨hi, hs⟩
  · have hlb := lsL_len (bv a)
    rw [subL_00]
    exact ⟨⟨isI_is (isI_ls _), by unfold Sz maxBytes; rw [is_len]; omega⟩, rfl⟩
  · rw [eqS_iff.2 rfl]
  · rw [eqB_self] at h2; cases h2
open Classical in
noncomputable def c3 : List T → Ans
  | [.int .u64 a, .int .u64 b, .int .i64 o, .list 1 xs, .str t] => .req ((R64 a ∧ R64 b) ∧ (IsI xs ∧ Sz xs) ∧ t.size ≤ 1048576) (.bool true)
  | _ => .no
theorem got3 {vs : List T} {x : T} (h : Got (c3 vs) x) : FnOk Tryd.prog tgl 3 vs x := by
  unfold c3 at h
  split at h
  · obtain ⟨hq, e⟩ := got_req h; rw [e]; exact ok3 _ _ _ _ _ hq
  · exact (got_no h).elim
theorem nogl3 (vs : List T) (p : Prop) (d : Decidable p) (sz : Nat) (xs : List T) (h : c3 vs = @Ans.gl p d sz xs) : False := by
  unfold c3 at h
  split at h <;> cases h
theorem pk3 (vs : List T) (p : Prop) (d : Decidable p) (x : T) (h : c3 vs = @Ans.pk p d x) (hp : p) : FnOk Tryd.prog tgl 3 vs x := by
  unfold c3 at h
  split at h
  · cases h
  · cases h
end Go.Nx
