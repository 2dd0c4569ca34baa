/-
  SETS: THE TWO PARSES AGREE: plainly.
-/
import Derived.Test.YtpmpkcjcjccboaaDoorSw
import Derived.Test.YtpmpkcjcjccboaaDoorSp
set_option linter.unusedVariables false
set_option maxRecDepth 20000
namespace Go.Nx
open Go.RowKit

def pset (t : ByteArray) : B := (spl 44 t.data.toList).foldl (fun s w => add s (atoiN w)) 0
def pans (t : ByteArray) : T := if txt (pset t) = t then .tup [.int .u64 (iv (pset t)), .int .i64 0] else .tup [.int .u64 0, .int .i64 2]
theorem digN : ∀ k : Fin 65, 1 ≤ k.val → atoiN (dig (k.val : Int)).data.toList = (k.val : Int) ∧ (dig (k.val : Int)).data.toList.contains 44 = false := by decide +kernel
theorem dig_atoi {o : Int} (h : 1 ≤ o ∧ o ≤ 64) : atoiN (dig o).data.toList = o ∧ (44 : UInt8) ∉ (dig o).data.toList := by
  obtain ⟨k, rfl⟩ : ∃ k : Nat, o = k := ⟨o.toNat, by omega⟩
  have := digN ⟨k, by omega⟩ (by show 1 ≤ k; omega)
  exact ⟨this.1, fun hm => by
    have h2 := this.2
    rw [List.contains_iff_mem.2 hm] at h2; cases h2⟩
theorem lsL_nil {s : B} (h : lsL s = []) : s = 0 := by rw [← ofL_lsL s, h]; rfl
theorem txt_list {s : B} (h : lsL s ≠ []) : (txt s).data.toList = jn 44 ((lsL s).map fun o => (dig o).data.toList) := by
  rw [txt_cons h, jn_eq]; rfl
theorem lsL_range {s : B} : ∀ o ∈ lsL s, 1 ≤ o ∧ o ≤ 64 := fun o h => has_range (mem_lsL.1 h)
theorem add_zero' (b : B) : add b 0 = b := ext_has fun o h1 h2 => by
  rw [has_add]; simp; omega
theorem foldl_dig : ∀ (l : List Int) (b : B), (∀ o ∈ l, 1 ≤ o ∧ o ≤ 64) → (l.map fun o => (dig o).data.toList).foldl (fun s w => add s (atoiN w)) b = l.foldl add b
  | [], b, _ => rfl
  | o :: l, b, h => by
    rw [List.map_cons, List.foldl_cons, List.foldl_cons, (dig_atoi (h o (by simp))).1]
    exact foldl_dig l _ fun x hx => h x (by simp [hx])
theorem pset_txt (s : B) : pset (txt s) = s := by
  by_cases h : lsL s = []
  · unfold pset
    rw [txt_nil h, lsL_nil h]
    have e : spl 44 (⟨#[45]⟩ : ByteArray).data.toList = [[45]] := by decide +kernel
    rw [e]
    show add 0 (atoiN [45]) = 0
    rw [show atoiN [45] = 0 by decide +kernel, add_zero']
  · unfold pset
    rw [txt_list h, spl_jn (by simpa using h) fun p hp => by
      obtain ⟨o, ho, rfl⟩ := List.mem_map.1 hp
      exact (dig_atoi (lsL_range o ho)).2, foldl_dig _ _ lsL_range]
    exact ofL_lsL s
/-- what digits spell, one by one -/
def dnum : Nat → List UInt8 → Option Nat
  | n, [] => some n
  | n, c :: l => if 48 ≤ c.toNat ∧ c.toNat ≤ 57 ∧ n ≤ 64 then dnum (n * 10 + (c.toNat - 48)) l else none
theorem fold_dnum : ∀ (l : List UInt8) (b : B) (n m : Nat), dnum n l = some m → l.foldl dstep (b, n) = (b, m)
  | [], b, n, m, h => by simp [dnum] at h; subst h; rfl
  | c :: l, b, n, m, h => by
    rw [dnum] at h
    split at h
    · rename_i hc
      rw [List.foldl_cons, show dstep (b, n) c = (b, n * 10 + (c.toNat - 48)) by unfold dstep; rw [if_pos hc]]
      exact fold_dnum l b _ m h
    · cases h
theorem digD : ∀ k : Fin 65, 1 ≤ k.val → dnum 0 (dig (k.val : Int)).data.toList = some k.val := by decide +kernel
theorem fold_dig {o : Int} (h : 1 ≤ o ∧ o ≤ 64) (b : B) : ((dig o).data.toList.foldl dstep (b, 0)).1 = b ∧ (((dig o).data.toList.foldl dstep (b, 0)).2 : Int) = o := by
  obtain ⟨k, rfl⟩ : ∃ k : Nat, o = k := ⟨o.toNat, by omega⟩
  rw [fold_dnum _ b 0 k (digD ⟨k, by omega⟩ (by show 1 ≤ k; omega))]
  exact ⟨rfl, rfl⟩
theorem dstep_comma (p : B × Nat) : dstep p 44 = (add p.1 (p.2 : Int), 0) := by
  unfold dstep; rw [if_neg fun h => absurd h.1 (by decide)]
theorem fold_jn : ∀ (l : List Int) (b : B), l ≠ [] → (∀ o ∈ l, 1 ≤ o ∧ o ≤ 64) →
    add ((jn 44 (l.map fun o => (dig o).data.toList)).foldl dstep (b, 0)).1 (((jn 44 (l.map fun o => (dig o).data.toList)).foldl dstep (b, 0)).2 : Int) = l.foldl add b
  | [], b, h, _ => absurd rfl h
  | [o], b, _, h => by
    obtain ⟨h1, h2⟩ := fold_dig (h o (by simp)) b
    show add ((dig o).data.toList.foldl dstep (b, 0)).1 _ = add b o
    rw [h1]; congr 1
  | o :: p :: l, b, _, h => by
    obtain ⟨h1, h2⟩ := fold_dig (h o (by simp)) b
    rw [List.map_cons, jn_cons _ _ (by simp), List.foldl_append, List.foldl_cons]
    rw [dstep_comma, h1, h2]
    exact fold_jn (p :: l) (add b o) (by simp) fun x hx => h x (by simp [hx])
theorem dset_txt (s : B) : dset (txt s) = s := by
  by_cases h : lsL s = []
  · unfold dset dfold
    rw [txt_nil h, lsL_nil h]
    show add (dstep (0, 0) 45).1 ((dstep (0, 0) 45).2 : Int) = 0
    have e : dstep (0, 0) 45 = (add 0 0, 0) := by unfold dstep; rw [if_neg (by decide)]; rfl
    rw [e]
    show add (add 0 0) 0 = 0
    rw [add_zero', add_zero']
  · unfold dset dfold
    rw [txt_list h, fold_jn _ 0 h lsL_range]
    exact ofL_lsL s
theorem pans_dans (t : ByteArray) : pans t = dans t := by
  unfold pans dans
  by_cases h : txt (pset t) = t
  · have e : dset t = pset t := by rw [← h, dset_txt, pset_txt]
    rw [if_pos h, e, if_pos h]
  · rw [if_neg h, if_neg fun h2 => h (by have e : pset t = dset t := by rw [← h2, dset_txt, pset_txt]
                                         rw [e]; exact h2)]
theorem pans_txt (s : B) : pans (txt s) = .tup [.int .u64 (iv s), .int .i64 0] := by
  unfold pans
  rw [pset_txt, if_pos rfl]
def pSet (t : ByteArray) : Int := if txt (pset t) = t then iv (pset t) else 0
def pErr (t : ByteArray) : Int := if txt (pset t) = t then 0 else 2
theorem pans_tup (t : ByteArray) : pans t = .tup [.int .u64 (pSet t), .int .i64 (pErr t)] := by unfold pans pSet pErr; split <;> rfl
theorem pS_dS (t : ByteArray) : pSet t = dSet t ∧ pErr t = dErr t := by
  have h := pans_dans t
  rw [pans_tup, dans_tup] at h
  simp at h
  exact h
theorem p_txt (s : B) : pSet (txt s) = iv s ∧ pErr (txt s) = 0 := by
  have h := pans_txt s
  rw [pans_tup] at h
  simp at h
  exact h
theorem p_cases (t : ByteArray) : (pErr t = 0 ∧ ∃ s : B, pSet t = iv s ∧ txt s = t) ∨ (pErr t = 2 ∧ pSet t = 0) := by
  unfold pErr pSet
  by_cases h : txt (pset t) = t
  · rw [if_pos h, if_pos h]; exact .inl ⟨rfl, _, rfl, h⟩
  · rw [if_neg h, if_neg h]; exact .inr ⟨rfl, rfl⟩
end Go.Nx
