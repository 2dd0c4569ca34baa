/-
  SETS: THE DOCUMENT's PARSE.
-/
import Derived.Test.YtpmpkcjcjccboaaDoorSu
set_option linter.unusedVariables false
set_option linter.unusedSimpArgs false
set_option maxRecDepth 20000
set_option maxHeartbeats 4000000
namespace Go.Nx
open Go.RowKit Go.Proofs

noncomputable def lE8 : List (Nat × (List T → Ans)) := (30, c30) :: lE7
noncomputable def iE8 : List (Nat × Pt) := iE7
noncomputable abbrev E8 : Env := En tgl lE8 iE8
theorem env_E8 : EnvOk Tryd.prog E8 := (env_fn env_E7 (fun _ _ => got30) (fun vs p d sz xs h _ => (nogl30 vs p d sz xs h).elim) pk30)
def dstep (p : B × Nat) (c : UInt8) : B × Nat := if 48 ≤ c.toNat ∧ c.toNat ≤ 57 ∧ p.2 ≤ 64 then (p.1, p.2 * 10 + (c.toNat - 48)) else (add p.1 (p.2 : Int), 0)
def dfold (l : List UInt8) : B × Nat := l.foldl dstep (0, 0)
def dset (t : ByteArray) : B := add (dfold t.data.toList).1 ((dfold t.data.toList).2 : Int)
def dans (t : ByteArray) : T := if txt (dset t) = t then .tup [.int .u64 (iv (dset t)), .int .i64 0] else .tup [.int .u64 0, .int .i64 2]
def dSet (t : ByteArray) : Int := if txt (dset t) = t then iv (dset t) else 0
def dErr (t : ByteArray) : Int := if txt (dset t) = t then 0 else 2
theorem dans_tup (t : ByteArray) : dans t = .tup [.int .u64 (dSet t), .int .i64 (dErr t)] := by unfold dans dSet dErr; split <;> rfl
def pst (t : ByteArray) (k : Nat) : B × Nat := if k ≤ t.size then dfold (t.data.toList.take k) else (dset t, 0)
theorem pst_in {t : ByteArray} {k : Nat} (h : k < t.size) : pst t (k + 1) = dstep (pst t k) (t.data.toList.getD k 0) := by
  have hl : k < t.data.toList.length := by rw [Array.length_toList]; exact h
  unfold pst dfold
  rw [if_pos (by omega), if_pos (by omega), List.take_add_one, List.foldl_append, List.getD_eq_getElem?_getD, List.getElem?_eq_getElem hl]
  rfl
theorem pst_end {t : ByteArray} : pst t (t.size + 1) = (dset t, 0) := by unfold pst; rw [if_neg (by omega)]
theorem pst_len {t : ByteArray} : add (pst t t.size).1 ((pst t t.size).2 : Int) = dset t := by
  unfold pst dset
  rw [if_pos (Nat.le_refl _), List.take_of_length_le (by rw [Array.length_toList]; exact Nat.le_refl _)]
theorem eqS_iff {a b : ByteArray} : eqS a b = true ↔ a = b := by
  rw [eqS_def, beq_iff_eq, ByteArray.toList_eq, ByteArray.toList_eq]
  constructor
  · intro e
    obtain ⟨a⟩ := a
    obtain ⟨b⟩ := b
    congr 1
    exact Array.toList_inj.1 e
  · intro e; rw [e]
theorem wrap_u8' {x : Int} (h : 0 ≤ x ∧ x < 256) : IntKind.u8.wrap x = x := by
  unfold IntKind.wrap
  simp [IntKind.bits, IntKind.signed]
  omega
theorem ok11 (t : ByteArray) (hq : t.size ≤ 1048576) : FnOk Tryd.prog tgl 11 [.str t] (.tup [.int .u64 (dSet t), .int .i64 (dErr t)]) := by
  refine fn_ok (Γ := E8) env_E8 Tryd.func11 low11 ?_
  conv => whnf
  repeat' (first
    | (refine brK_true rfl ?_; conv => whnf)
    | (refine brK_false rfl ?_; conv => whnf)
    | (refine brK_true (by assumption) ?_; conv => whnf)
    | (refine brK_false (by assumption) ?_; conv => whnf)
    | (refine brK_true ?_ ?_; (focus (simp only [List.length_nil, fx] <;> omega)); conv => whnf)
    | (refine brK_false ?_ ?_; (focus (simp only [List.length_nil, fx] <;> omega)); conv => whnf)
    | ((refine brK_of (fun h => ?_) (fun h => ?_)) <;> (have h2 := h; (try simp only [List.length_nil, fx] at h2); conv => whnf))
    | (refine reqK_of ?_ ?_; (focus (first | decide | omega | assumption | (simp only [List.length_nil, fx] <;> omega) | (simp [keyNew, sameKey, kEq] <;> omega))); conv => whnf)
    | (refine reqK_of ?_ ?_; rotate_left; (conv => whnf); rotate_left)
    | (refine nth_us ?_ ?_ ?_; (focus (first | omega | (simp only [List.length_nil, fx] <;> omega))); (focus (first | omega | (simp only [List.length_nil, fx] <;> omega))); conv => whnf)
    | (refine nth_is ?_ ?_ ?_; (focus (first | omega | (simp only [List.length_nil, fx] <;> omega))); (focus (first | omega | (simp only [List.length_nil, fx] <;> omega))); conv => whnf)
    | (refine nth_bs ?_ ?_ ?_; (focus (first | omega | (simp only [List.length_nil, fx] <;> omega))); (focus (first | omega | (simp only [List.length_nil, fx] <;> omega))); conv => whnf))
  refine loopUp [] [.kill 7, .kill 8, .kill 9, .kill 10, .kill 11, .kill 12, .kill 13, .kill 14, .kill 15, .kill 16, .kill 17, .kill 18, .kill 19, .kill 20, .kill 21, .kill 22, .kill 23, .kill 24, .kill 25, .kill 26, .kill 27, .kill 28, .kill 29, .kill 30, .kill 31, .kill 32, .kill 33, .kill 34, .kill 35, .kill 36, .kill 37, .kill 38, .kill 39, .kill 40, .kill 41, .kill 42, .kill 43] (fun k : Nat => [(4, .t (.int .u64 (iv (pst t k).1))), (5, .t (.int .i64 ((pst t k).2 : Int))), (6, .t (.int .i64 (k : Int)))]) (fun _ => []) (fun k => k ≤ t.size + 1) (fun k => t.size + 1 - k) 0 (Nat.zero_le _) ?_
  conv => whnf
  refine ⟨⟨rfl, rfl⟩, fun k hk C hC => ?_⟩
  have hw : IntKind.i64.wrap ((k : Int) + 1) = (k : Int) + 1 := wrap_i64 ⟨by omega, by omega⟩
  have hR := R_iv (pst t k).1
  conv => whnf
  repeat' (first
    | (refine brK_true rfl ?_; conv => whnf)
    | (refine brK_false rfl ?_; conv => whnf)
    | (refine brK_true (by assumption) ?_; conv => whnf)
    | (refine brK_false (by assumption) ?_; conv => whnf)
    | (refine brK_true ?_ ?_; (focus (simp only [List.length_nil, fx] <;> omega)); conv => whnf)
    | (refine brK_false ?_ ?_; (focus (simp only [List.length_nil, fx] <;> omega)); conv => whnf)
    | ((refine brK_of (fun h => ?_) (fun h => ?_)) <;> (have h2 := h; (try simp only [List.length_nil, fx] at h2); conv => whnf))
    | (refine reqK_of ?_ ?_; (focus (first | decide | omega | assumption | (simp only [List.length_nil, fx] <;> omega) | (simp [keyNew, sameKey, kEq] <;> omega))); conv => whnf)
    | (refine reqK_of ?_ ?_; rotate_left; (conv => whnf); rotate_left)
    | (refine nth_us ?_ ?_ ?_; (focus (first | omega | (simp only [List.length_nil, fx] <;> omega))); (focus (first | omega | (simp only [List.length_nil, fx] <;> omega))); conv => whnf)
    | (refine nth_is ?_ ?_ ?_; (focus (first | omega | (simp only [List.length_nil, fx] <;> omega))); (focus (first | omega | (simp only [List.length_nil, fx] <;> omega))); conv => whnf)
    | (refine nth_bs ?_ ?_ ?_; (focus (first | omega | (simp only [List.length_nil, fx] <;> omega))); (focus (first | omega | (simp only [List.length_nil, fx] <;> omega))); conv => whnf))
  · refine loopC (hC (k + 1) (by omega) (by omega)) ?_
    rw [Int.toNat_natCast] at *
    have e : pst t (k + 1) = ((pst t k).1, (pst t k).2 * 10 + ((t.data.toList.getD k 0).toNat - 48)) := by
      rw [pst_in (by omega)]; unfold dstep; rw [if_pos ⟨by omega, by omega, by omega⟩]
    have e2 : IntKind.i64.wrap (IntKind.i64.wrap (((pst t k).2 : Int) * 10) + IntKind.i64.wrap (IntKind.u8.wrap (((t.data.toList.getD k 0).toNat : Int) - 48))) = (((pst t k).2 * 10 + ((t.data.toList.getD k 0).toNat - 48) : Nat) : Int) := by
      rw [wrap_u8' ⟨by omega, by omega⟩]
      have a1 : IntKind.i64.wrap (((pst t k).2 : Int) * 10) = ((pst t k).2 : Int) * 10 := wrap_i64 ⟨by omega, by omega⟩
      have a2 : IntKind.i64.wrap (((t.data.toList.getD k 0).toNat : Int) - 48) = ((t.data.toList.getD k 0).toNat : Int) - 48 := wrap_i64 ⟨by omega, by omega⟩
      rw [a1, a2, wrap_i64 ⟨by omega, by omega⟩]
      omega
    rw [hw, e2, e, Int.natCast_succ]
    rfl
  · refine loopC (hC (k + 1) (by omega) (by omega)) ?_
    rw [Int.toNat_natCast] at *
    have e : pst t (k + 1) = (add (pst t k).1 ((pst t k).2 : Int), 0) := by
      rw [pst_in (by omega)]; unfold dstep; rw [if_neg (by omega)]
    rw [hw, e, bv_iv, Int.natCast_succ]
    rfl
  · refine loopC (hC (k + 1) (by omega) (by omega)) ?_
    rw [Int.toNat_natCast] at *
    have e : pst t (k + 1) = (add (pst t k).1 ((pst t k).2 : Int), 0) := by
      rw [pst_in (by omega)]; unfold dstep; rw [if_neg (by omega)]
    rw [hw, e, bv_iv, Int.natCast_succ]
    rfl
  · refine loopC (hC (k + 1) (by omega) (by omega)) ?_
    rw [Int.toNat_natCast] at *
    have e : pst t (k + 1) = (add (pst t k).1 ((pst t k).2 : Int), 0) := by
      rw [pst_in (by omega)]; unfold dstep; rw [if_neg (by omega)]
    rw [hw, e, bv_iv, Int.natCast_succ]
    rfl
  · refine loopC (hC (k + 1) (by omega) (by omega)) ?_
    obtain rfl : k = t.size := by omega
    rw [hw, bv_iv, pst_len, pst_end, Int.natCast_succ]
    rfl
  · obtain rfl : k = t.size + 1 := by omega
    rw [bv_iv, pst_end] at h2
    refine Eq.trans ?_ (dans_tup t)
    unfold dans
    rw [if_neg fun e => by rw [eqS_iff.2 e] at h2; cases h2]
  · obtain rfl : k = t.size + 1 := by omega
    rw [bv_iv, pst_end] at h2
    refine Eq.trans ?_ (dans_tup t)
    unfold dans
    rw [if_pos (eqS_iff.1 h2), pst_end]
open Classical in
noncomputable def c11 : List T → Ans
  | [.str t] => .req (t.size ≤ 1048576) (.tup [.int .u64 (dSet t), .int .i64 (dErr t)])
  | _ => .no
theorem got11 {vs : List T} {x : T} (h : Got (c11 vs) x) : FnOk Tryd.prog tgl 11 vs x := by
  unfold c11 at h
  split at h
  · obtain ⟨hq, e⟩ := got_req h; rw [e]; exact ok11 _ hq
  · exact (got_no h).elim
theorem nogl11 (vs : List T) (p : Prop) (d : Decidable p) (sz : Nat) (xs : List T) (h : c11 vs = @Ans.gl p d sz xs) : False := by
  unfold c11 at h
  split at h <;> cases h
theorem pk11 (vs : List T) (p : Prop) (d : Decidable p) (x : T) (h : c11 vs = @Ans.pk p d x) (hp : p) : FnOk Tryd.prog tgl 11 vs x := by
  unfold c11 at h
  split at h
  · cases h
  · cases h
end Go.Nx
