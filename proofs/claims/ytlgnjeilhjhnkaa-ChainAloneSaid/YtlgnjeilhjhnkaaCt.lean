/-
  LAYS: WHAT WAS LAID IS LISTED.
-/
import Derived.Test.YtlgnjeilhjhnkaaCp
set_option linter.unusedVariables false
set_option linter.unusedSimpArgs false
set_option maxRecDepth 20000
set_option maxHeartbeats 4000000
namespace Go.Nx
open Go.RowKit Go.Proofs

def nodesN (l : List Int) : Nat → List Int
  | 0 => []
  | k + 1 => if (1 + at0 l k % 20) ∈ nodesN l k then nodesN l k else nodesN l k ++ [1 + at0 l k % 20]
theorem few : ∀ (n : Nat) (l : List Int), l.Nodup → (∀ x ∈ l, 1 ≤ x ∧ x ≤ n) → l.length ≤ n
  | 0, l, _, h => by
    cases l with
    | nil => simp
    | cons x l => have := h x (by simp); omega
  | n + 1, l, hn, h => by
    have h1 := few n (l.erase ((n + 1 : Nat) : Int)) (hn.erase _) fun x hx => by
      have h2 := h x (List.mem_of_mem_erase hx)
      have : x ≠ ((n + 1 : Nat) : Int) := fun e => by subst e; exact absurd hx (List.Nodup.not_mem_erase hn)
      omega
    have h2 := List.le_length_erase (a := ((n + 1 : Nat) : Int)) (l := l)
    omega
structure NOk (ns : List Int) : Prop where
  nd : ns.Nodup
  r : ∀ x ∈ ns, 1 ≤ x ∧ x ≤ 20
theorem NOk.len {ns : List Int} (h : NOk ns) : ns.length ≤ 20 := few 20 ns h.nd h.r
theorem nodes_ok (l : List Int) (k : Nat) : NOk (nodesN l k) := by
  induction k with
  | zero => exact ⟨List.nodup_nil, fun x hx => by cases hx⟩
  | succ k ih =>
    rw [nodesN]
    split
    · exact ih
    · rename_i h
      refine ⟨?_, fun x hx => ?_⟩
      · rw [List.nodup_append]
        refine ⟨ih.nd, by simp, fun a ha b hb e => ?_⟩
        simp at hb; subst hb; subst e; exact h ha
      · rcases List.mem_append.1 hx with h' | h'
        · exact ih.r x h'
        · simp at h'; subst h'; omega
def nxt (ns : List Int) (j : Nat) : Int := if j < ns.length then at0 ns j else 0
theorem nxt_R {ns : List Int} (h : NOk ns) (j : Nat) : 0 ≤ nxt ns j ∧ nxt ns j ≤ 20 := by
  unfold nxt
  split
  · have := h.r _ (at0_mem (l := ns) (i := (j : Int)) (by simpa)); omega
  · omega
theorem at0_inj {ns : List Int} (h : NOk ns) {i j : Nat} (hi : i < ns.length) (hj : j < ns.length) (e : at0 ns i = at0 ns j) : i = j := by
  have e' : ns[i]? = ns[j]? := by
    simp [at0, hi, hj] at e
    simp [hi, hj, e]
  exact (List.getElem?_inj hi h.nd).1 e'
theorem at0_stL {m : List Int} {i j v : Int} (hj : 0 ≤ j) : at0 (stL m i v) j = if i = j ∧ j < m.length then v else at0 m j := by
  unfold stL doL
  by_cases hi : 0 ≤ i ∧ i < m.length
  · rw [if_pos hi, if_pos rfl, at0_setI _ _ _ _ hi.1 hj]
  · rw [if_neg hi, if_neg]
    omega
theorem layN_len (m : List Int) (nx : Int) (r : List Int) (k : Nat) : (layN m nx r k).length = m.length := by
  induction k with
  | zero => rfl
  | succ k ih => rw [layN, stL_len]; exact ih
theorem layN_at {m ns : List Int} (hm : m.length = 30) (h : NOk ns) (k : Nat) (hk : k ≤ ns.length) : ∀ j, j < k → at0 (layN m 5 ns k) (5 + at0 ns j) = nxt ns (j + 1) := by
  induction k with
  | zero => intro j hj; omega
  | succ k ih =>
    intro j hj
    have hrk := h.r _ (at0_mem (l := ns) (i := (k : Int)) (by simp; omega))
    have hrj := h.r _ (at0_mem (l := ns) (i := (j : Int)) (by simp; omega))
    have hw : IntKind.i64.wrap (5 + at0 ns k) = 5 + at0 ns k := w_id (by omega)
    have hv : IntKind.u64.wrap (if k + 1 < ns.length then at0 ns ((k : Int) + 1) else 0) = nxt ns (k + 1) := by
      have : (if k + 1 < ns.length then at0 ns ((k : Int) + 1) else 0) = nxt ns (k + 1) := rfl
      rw [this]
      have := nxt_R h (k + 1)
      exact wrap_u64 ⟨by omega, by omega⟩
    rw [layN, hw, hv, at0_stL (by omega), layN_len]
    by_cases e : j = k
    · subst e
      rw [if_pos ⟨rfl, by omega⟩]
    · rw [if_neg, ih (by omega) j (by omega)]
      intro hc
      exact e (at0_inj h (by omega) (by omega) (by omega))
theorem layL_at {m ns : List Int} (hm : m.length = 30) (h : NOk ns) : (∀ j, j < ns.length → at0 (layL m 3 5 ns) (5 + at0 ns j) = nxt ns (j + 1)) ∧ at0 (layL m 3 5 ns) 3 = nxt ns 0 := by
  have h0 : pk 0 (if 0 < ns.length then at0 ns 0 else 0) = nxt ns 0 := by
    have e : (if 0 < ns.length then at0 ns 0 else 0) = nxt ns 0 := rfl
    rw [e]
    have := nxt_R h 0
    unfold pk; omega
  unfold layL
  rw [h0]
  constructor
  · intro j hj
    have hrj := h.r _ (at0_mem (l := ns) (i := (j : Int)) (by simp; omega))
    rw [at0_stL (by omega), if_neg (by omega)]
    exact layN_at hm h _ (Nat.le_refl _) j hj
  · rw [at0_stL (by omega), if_pos ⟨rfl, by rw [layN_len, hm]; decide⟩]
theorem ld_at {m : List Int} {i : Int} (h : 0 ≤ i ∧ i < m.length) : ldV m i = at0 m i := by
  unfold ldV doV; rw [if_pos h, if_pos (by decide)]
theorem goL_lay {m ns : List Int} (hl : m.length = 30) (h : NOk ns) (h1 : ∀ j, j < ns.length → at0 m (5 + at0 ns j) = nxt ns (j + 1)) {mo : Int} (hmo : 0 ≤ mo) :
    ∀ (f k : Nat), k ≤ ns.length → (k : Int) ≤ mo → ns.length < k + f → goL m 5 mo f (ns.take k) (nxt ns k) = ns.take (min mo.toNat ns.length)
  | 0, k, hk, _, hf => by omega
  | f + 1, k, hk, hkm, hf => by
    have hlen := h.len
    rw [goL]
    have htl : (ns.take k).length = k := by simp; omega
    rw [htl]
    by_cases hlt : k < ns.length
    · have hx : nxt ns k = at0 ns k := by unfold nxt; rw [if_pos hlt]
      have hr := h.r _ (at0_mem (l := ns) (i := (k : Int)) (by simp; omega))
      by_cases hm : (k : Int) < mo
      · rw [if_pos ⟨by omega, hm, by omega⟩]
        have e1 : ns.take k ++ [nxt ns k] = ns.take (k + 1) := by
          rw [List.take_add_one, hx]
          simp [at0, hlt]
        have e2 : IntKind.i64.wrap (ldV m (IntKind.i64.wrap (5 + nxt ns k))) = nxt ns (k + 1) := by
          have := nxt_R h (k + 1)
          have ew : IntKind.i64.wrap (5 + at0 ns k) = 5 + at0 ns k := w_id (by omega)
          rw [hx, ew, ld_at (by omega), h1 k hlt, w_id (by omega)]
        rw [e1, e2]
        exact goL_lay hl h h1 hmo f (k + 1) (by omega) (by omega) (by omega)
      · rw [if_neg (by omega)]
        congr 1; omega
    · have hx : nxt ns k = 0 := by unfold nxt; rw [if_neg hlt]
      rw [if_neg (by omega)]
      congr 1; omega
theorem list_lay {ns : List Int} (h : NOk ns) {mo : Int} (hmo : 0 ≤ mo) : listL (layL (List.replicate 30 0) 3 5 ns) 3 5 mo = ns.take (min mo.toNat ns.length) := by
  have hl : (layL (List.replicate 30 0) 3 5 ns).length = 30 := by unfold layL; rw [stL_len, layN_len]; simp
  obtain ⟨h1, h2⟩ := layL_at (m := List.replicate 30 0) (by simp) h
  unfold listL
  rw [ld_at (by omega), h2]
  have : nd (nxt ns 0) = nxt ns 0 := by have := nxt_R h 0; unfold nd; omega
  rw [this]
  have hlen := h.len
  exact goL_lay hl h h1 hmo 1001 0 (by omega) (by omega) (by omega)
end Go.Nx
