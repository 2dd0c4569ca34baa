/-
  ALONE A DEQUE IS A LIST: plain.
-/
import Derived.Test.YtpdgfajhdeknmaaDg
set_option linter.unusedVariables false
set_option linter.unusedSimpArgs false
set_option maxRecDepth 20000
set_option maxHeartbeats 4000000
namespace Go.Nx
open Go.RowKit Go.Proofs

structure DOk (n : Int) (m st : List Int) (t b : Int) (k : Nat) : Prop where
  hn : 1 ≤ n ∧ n ≤ 5
  mR : ∀ v ∈ m, R64 v
  l : (m.length : Int) = n + 2
  t0 : at0 m 0 = t
  b0 : at0 m 1 = b
  tb : 1 ≤ t ∧ b = t + st.length ∧ (st.length : Int) ≤ n ∧ b ≤ k + 1
  el : ∀ i : Nat, i < st.length → at0 m (2 + (t + i) % n) = at0 st i
  ix : ∀ a ∈ st, 1 ≤ a ∧ a ≤ k
  hk : k ≤ 100
theorem ld_in {m : List Int} {i : Int} (h : 0 ≤ i ∧ i < m.length) : ldV m i = at0 m i := by
  unfold ldV doV; rw [if_pos h, if_pos (by decide)]
theorem st_in {m : List Int} {i v : Int} (h : 0 ≤ i ∧ i < m.length) : stL m i v = m.set i.toNat v := by
  unfold stL doL; rw [if_pos h, if_pos rfl]
theorem sw_in {m : List Int} {i a v : Int} (h : 0 ≤ i ∧ i < m.length) (e : at0 m i = a) : doL m 3 i a v = m.set i.toNat v ∧ doB m 3 i a = true := by
  constructor
  · unfold doL; rw [if_pos h, if_neg (by decide), if_pos rfl, if_pos e]
  · unfold doB; exact decide_eq_true ⟨h.1, h.2, by decide, by decide, fun _ => e⟩
theorem wui {n : Int} (h : 0 ≤ n ∧ n < 1000000) : wu n = n := wrap_u64 ⟨by omega, by omega⟩
theorem wii {n : Int} (h : -1000000 < n ∧ n < 1000000) : wi n = n := wrap_i64 ⟨by omega, by omega⟩
theorem pl_id {n i : Int} (hn : 1 ≤ n ∧ n ≤ 5) (hi : 0 ≤ i ∧ i < 1000) : plR 0 n i = 2 + i % n := by
  have hm : maxI n 1 = n := by rw [maxI_def]; split <;> omega
  have h1 := Int.emod_nonneg i (show n ≠ 0 by omega)
  have h2 := Int.emod_lt_of_pos i (show 0 < n by omega)
  have e0 : wi (0 + 2) = 2 := rfl
  unfold plR
  rw [hm, wui (n := n) (by omega), Int.tmod_eq_emod_of_nonneg hi.1, wii (n := i % n) (by omega), e0, wii (by omega)]
theorem drun_eq {m : List Int} {c : DM} {k : Nat} (hk : k ≤ 20) (h : ∀ j, j < k → (dN m c j).2.out = 0) (h2 : (dN m c k).2.out ≠ 0) : drunK m c 20 = k := by
  have key : ∀ f j, j ≤ k → k ≤ j + f → dgoK m c f j = k := by
    intro f
    induction f with
    | zero => intro j h1 h3; rw [dgoK]; omega
    | succ f ih =>
      intro j h1 h3
      rw [dgoK]
      by_cases e : j = k
      · subst e; rw [if_neg h2]
      · rw [if_pos (h j (by omega))]; exact ih (j + 1) (by omega) (by omega)
  exact key 20 0 (by omega) (by omega)
theorem mod_ne {n t i j : Int} (hn : 1 ≤ n ∧ n ≤ 5) (h : 0 < j - i) (h2 : j - i < n) : (t + i) % n ≠ (t + j) % n := by
  rcases (by omega : n = 1 ∨ n = 2 ∨ n = 3 ∨ n = 4 ∨ n = 5) with e | e | e | e | e <;> subst e <;> omega
def d0 (kind n x : Int) : DM := ⟨kind, 0, 0, n, 0, 0, x, 0⟩
section
variable {n t b x : Int} {m st : List Int} {k : Nat}
theorem DOk.base (h : DOk n m st t b k) : ldV m 0 = t ∧ ldV m (wi 1) = b ∧ 0 ≤ t ∧ t < 1000 ∧ 0 ≤ b ∧ b < 1000 := by
  have hl := h.l
  have hn := h.hn
  have htb := h.tb
  have hk := h.hk
  have e : wi 1 = 1 := rfl
  rw [e, ld_in (by omega), ld_in (by omega), h.t0, h.b0]
  omega
theorem DOk.more (h : DOk n m st t b k) (hk : k < 100) : DOk n m st t b (k + 1) :=
  ⟨h.hn, h.mR, h.l, h.t0, h.b0, by have := h.tb; omega, h.el, fun a ha => by have := h.ix a ha; omega, by omega⟩
theorem bb (b : Int) (hb : 1 ≤ b ∧ b < 1000) : wu (b - 1) = b - 1 := wui (by omega)
theorem sz_id (hn : 1 ≤ n ∧ n ≤ 5) : wu (maxI n 1) = n := by
  have hm : maxI n 1 = n := by rw [maxI_def]; split <;> omega
  rw [hm, wui (by omega)]
theorem full_run (h : DOk n m st t b k) (hf : (st.length : Int) = n) : ∃ d, dN m (d0 1 n x) (drunK m (d0 1 n x) 20) = (m, d) ∧ d.out = 3 ∧ d.x = x ∧ d.kind = 1 := by
  obtain ⟨h1, h2, h3, h4, h5, h6⟩ := h.base
  have htb := h.tb
  have hn := h.hn
  have e1 : dstep m (d0 1 n x) = (m, ⟨1, 1, 0, n, b, 0, x, 0⟩) := by unfold d0 dstep; simp [h2]
  have hle : leI n (wu (b - t)) = true := by rw [wui (by omega)]; exact le_t.2 (by omega)
  have e2 : dstep m ⟨1, 1, 0, n, b, 0, x, 0⟩ = (m, ⟨1, 2, 0, n, b, t, x, 3⟩) := by unfold dstep; simp [h1, sz_id hn, hle]
  have r : dN m (d0 1 n x) 2 = (m, ⟨1, 2, 0, n, b, t, x, 3⟩) := by rw [dN_front, e1, dN_front, e2]; rfl
  have rk : drunK m (d0 1 n x) 20 = 2 := drun_eq (by omega) (fun j hj => by
    rcases (by omega : j = 0 ∨ j = 1) with rfl | rfl
    · rfl
    · rw [dN_front, e1]; rfl) (by rw [r]; simp)
  exact ⟨_, (congrArg (dN m _) rk).trans r, rfl, rfl, rfl⟩
theorem push_run (h : DOk n m st t b k) (hf : (st.length : Int) < n) (hk : k < 100) : ∃ m' d, dN m (d0 1 n ((k : Int) + 1)) (drunK m (d0 1 n ((k : Int) + 1)) 20) = (m', d) ∧ d.out = 1 ∧ d.x = (k : Int) + 1 ∧ d.kind = 1 ∧ DOk n m' (st ++ [(k : Int) + 1]) t (b + 1) (k + 1) := by
  obtain ⟨h1, h2, h3, h4, h5, h6⟩ := h.base
  have htb := h.tb
  have hn := h.hn
  have hl := h.l
  have hb0 := Int.emod_nonneg b (show n ≠ 0 by omega)
  have hb1 := Int.emod_lt_of_pos b (show 0 < n by omega)
  generalize hx : (k : Int) + 1 = x
  have e1 : dstep m (d0 1 n x) = (m, ⟨1, 1, 0, n, b, 0, x, 0⟩) := by unfold d0 dstep; simp [h2]
  have hle : leI n (wu (b - t)) = false := by rw [wui (by omega)]; exact le_f.2 (by omega)
  have e2 : dstep m ⟨1, 1, 0, n, b, 0, x, 0⟩ = (m, ⟨1, 2, 0, n, b, t, x, 0⟩) := by unfold dstep; simp [h1, sz_id hn, hle]
  have hp := pl_id hn (i := b) (by omega)
  have hwx : wu x = x := wui (by omega)
  have e3 : dstep m ⟨1, 2, 0, n, b, t, x, 0⟩ = (m.set (2 + b % n).toNat x, ⟨1, 3, 0, n, b, t, x, 0⟩) := by unfold dstep; simp [hp, hwx, st_in (m := m) (i := 2 + b % n) (v := x) (by omega)]
  generalize hm1 : m.set (2 + b % n).toNat x = m1 at e3
  have hl1 : (m1.length : Int) = n + 2 := by rw [← hm1]; simp [hl]
  have e01 : wi 1 = 1 := rfl
  have hwb : wu (b + 1) = b + 1 := wui (by omega)
  have e4 : dstep m1 ⟨1, 3, 0, n, b, t, x, 0⟩ = (m1.set 1 (b + 1), ⟨1, 4, 0, n, b, t, x, 1⟩) := by
    have := st_in (m := m1) (i := 1) (v := b + 1) (by omega)
    unfold dstep; simp [e01, hwb, this]
  have r : dN m (d0 1 n x) 4 = (m1.set 1 (b + 1), ⟨1, 4, 0, n, b, t, x, 1⟩) := by rw [dN_front, e1, dN_front, e2, dN_front, e3, dN_front, e4]; rfl
  have rk : drunK m (d0 1 n x) 20 = 4 := drun_eq (by omega) (fun j hj => by
    rcases (by omega : j = 0 ∨ j = 1 ∨ j = 2 ∨ j = 3) with rfl | rfl | rfl | rfl
    · rfl
    · rw [dN_front, e1]; rfl
    · rw [dN_front, e1, dN_front, e2]; rfl
    · rw [dN_front, e1, dN_front, e2, dN_front, e3]; rfl) (by rw [r]; simp)
  refine ⟨_, _, (congrArg (dN m _) rk).trans r, rfl, rfl, rfl, ?_⟩
  have hs1 : m1.set 1 (b + 1) = m1.set (Int.toNat 1) (b + 1) := rfl
  refine ⟨hn, fun v hv => ?_, by simp [hl1], ?_, ?_, by simp; omega, fun i hi => ?_, fun a ha => ?_, by omega⟩
  · rcases List.mem_or_eq_of_mem_set hv with h' | rfl
    · rw [← hm1] at h'
      rcases List.mem_or_eq_of_mem_set h' with h2 | rfl
      · exact h.mR v h2
      · unfold R64; omega
    · unfold R64; omega
  · rw [hs1, at0_setI _ _ _ _ (by omega) (by omega), if_neg (by omega), ← hm1, at0_setI _ _ _ _ (by omega) (by omega), if_neg (by omega)]; exact h.t0
  · rw [hs1, at0_setI _ _ _ _ (by omega) (by omega), if_pos ⟨rfl, by omega⟩]
  · have hi0 := Int.emod_nonneg (t + i) (show n ≠ 0 by omega)
    have hi1 := Int.emod_lt_of_pos (t + i) (show 0 < n by omega)
    rw [hs1, at0_setI _ _ _ _ (by omega) (by omega), if_neg (by omega), ← hm1, at0_setI _ _ _ _ (by omega) (by omega)]
    rw [List.length_append, List.length_singleton] at hi
    by_cases hlt : i < st.length
    · have hne := mod_ne (n := n) (t := t) (i := i) (j := st.length) hn (by omega) (by omega)
      rw [← htb.2.1] at hne
      rw [if_neg (by omega), h.el i hlt]
      simp [at0, List.getElem?_append_left hlt]
    · have hie : i = st.length := by omega
      have e : t + (i : Int) = b := by omega
      rw [e, if_pos ⟨rfl, by omega⟩, hie]
      simp [at0]
  · rcases List.mem_append.1 ha with h' | h'
    · have := h.ix a h'; omega
    · simp at h'; omega
theorem w21b : wi (0 + 1) = 1 := rfl
theorem pop_start (h : DOk n m st t b k) : dN m (d0 2 n x) 2 = (m.set 1 (b - 1), ⟨2, 2, 0, n, b, 0, x, 0⟩) ∧ (dN m (d0 2 n x) 1).2.out = 0 ∧ (∀ K, dN m (d0 2 n x) (K + 2) = dN (m.set 1 (b - 1)) ⟨2, 2, 0, n, b, 0, x, 0⟩ K) := by
  obtain ⟨h1, h2, h3, h4, h5, h6⟩ := h.base
  have htb := h.tb
  have hn := h.hn
  have hl := h.l
  have e1 : dstep m (d0 2 n x) = (m, ⟨2, 1, 0, n, b, 0, x, 0⟩) := by unfold d0 dstep; simp [h2]
  have hwb : wu (b - 1) = b - 1 := wui (by omega)
  have e01 : wi 1 = 1 := rfl
  have e2 : dstep m ⟨2, 1, 0, n, b, 0, x, 0⟩ = (m.set 1 (b - 1), ⟨2, 2, 0, n, b, 0, x, 0⟩) := by
    have := st_in (m := m) (i := 1) (v := b - 1) (by omega)
    unfold dstep; simp [e01, hwb, this]
  exact ⟨by rw [dN_front, e1, dN_front, e2]; rfl, by rw [dN_front, e1]; rfl, fun K => by rw [dN_front, e1, dN_front, e2]⟩
/-- behind the claim -/
theorem claim_at (h : DOk n m st t b k) : ((m.set 1 (b - 1)).length : Int) = n + 2 ∧ (∀ j, 0 ≤ j → at0 (m.set 1 (b - 1)) j = if 1 = j then b - 1 else at0 m j) ∧ (∀ v ∈ m.set 1 (b - 1), R64 v) := by
  have htb := h.tb
  have hn := h.hn
  have hl := h.l
  have hk := h.hk
  refine ⟨by simp [hl], fun j hj => ?_, fun v hv => ?_⟩
  · have hs1 : m.set 1 (b - 1) = m.set (Int.toNat 1) (b - 1) := rfl
    rw [hs1, at0_setI _ _ _ _ (by omega) hj]
    by_cases e : 1 = j
    · rw [if_pos ⟨e, by omega⟩, if_pos e]
    · rw [if_neg (by omega), if_neg e]
  · rcases List.mem_or_eq_of_mem_set hv with h' | rfl
    · exact h.mR v h'
    · unfold R64; omega
theorem pop_empty (h : DOk n m [] t b k) : ∃ m' d, dN m (d0 2 n x) (drunK m (d0 2 n x) 20) = (m', d) ∧ d.out = 2 ∧ d.x = 0 ∧ d.kind = 2 ∧ DOk n m' [] t b k := by
  obtain ⟨h1, h2, h3, h4, h5, h6⟩ := h.base
  have htb := h.tb
  have hn := h.hn
  have hl := h.l
  have hk := h.hk
  obtain ⟨p2, p1, pf⟩ := pop_start (x := x) h
  obtain ⟨c1, c2, c3⟩ := claim_at h
  generalize m.set 1 (b - 1) = mc at *
  have hbt : b = t := by have := htb.2.1; simp at this; exact this
  have hwb : wu (b - 1) = b - 1 := wui (by omega)
  have l0 : ldV mc 0 = t := by rw [ld_in (by omega), c2 0 (by omega)]; exact h.t0
  have hup : ltI 0 (wi (wu (t - (b - 1)))) = true := by rw [wui (by omega), wii (by omega)]; exact lt_t.2 (by omega)
  have e3 : dstep mc ⟨2, 2, 0, n, b, 0, x, 0⟩ = (mc, ⟨2, 5, 0, n, b, t, x, 0⟩) := by unfold dstep; simp [l0, hwb, hup]
  have e01 : wi 1 = 1 := rfl
  have e4 : dstep mc ⟨2, 5, 0, n, b, t, x, 0⟩ = (mc.set 1 b, ⟨2, 6, 0, n, b, t, 0, 2⟩) := by
    have := st_in (m := mc) (i := 1) (v := b) (by omega)
    unfold dstep; simp [e01, this]
  have r : dN m (d0 2 n x) 4 = (mc.set 1 b, ⟨2, 6, 0, n, b, t, 0, 2⟩) := by rw [pf 2, dN_front, e3, dN_front, e4]; rfl
  have rk : drunK m (d0 2 n x) 20 = 4 := drun_eq (by omega) (fun j hj => by
    rcases (by omega : j = 0 ∨ j = 1 ∨ j = 2 ∨ j = 3) with rfl | rfl | rfl | rfl
    · rfl
    · exact p1
    · rw [p2]
    · rw [pf 1, dN_front, e3]; rfl) (by rw [r]; simp)
  have hs1 : mc.set 1 b = mc.set (Int.toNat 1) b := rfl
  refine ⟨_, _, (congrArg (dN m _) rk).trans r, rfl, rfl, rfl, hn, fun v hv => ?_, by simp [c1], ?_, ?_, htb, fun i hi => by simp at hi, h.ix, hk⟩
  · rcases List.mem_or_eq_of_mem_set hv with h' | rfl
    · exact c3 v h'
    · unfold R64; omega
  · rw [hs1, at0_setI _ _ _ _ (by omega) (by omega), if_neg (by omega), c2 0 (by omega)]; exact h.t0
  · rw [hs1, at0_setI _ _ _ _ (by omega) (by omega), if_pos ⟨rfl, by omega⟩]
theorem pop_run {a : Int} (h : DOk n m (st ++ [a]) t b k) : ∃ m' d t' b', dN m (d0 2 n x) (drunK m (d0 2 n x) 20) = (m', d) ∧ d.out = 1 ∧ d.x = a ∧ d.kind = 2 ∧ DOk n m' st t' b' k := by
  obtain ⟨h1, h2, h3, h4, h5, h6⟩ := h.base
  have htb := h.tb
  have hn := h.hn
  have hl := h.l
  have hk := h.hk
  rw [List.length_append, List.length_singleton] at htb
  obtain ⟨p2, p1, pf⟩ := pop_start (x := x) h
  obtain ⟨c1, c2, c3⟩ := claim_at h
  generalize m.set 1 (b - 1) = mc at *
  have hwb : wu (b - 1) = b - 1 := wui (by omega)
  have l0 : ldV mc 0 = t := by rw [ld_in (by omega), c2 0 (by omega)]; exact h.t0
  have hup : ltI 0 (wi (wu (t - (b - 1)))) = false := by
    obtain ⟨q, hq⟩ : ∃ q : Int, wi (wu (t - (b - 1))) = t - (b - 1) := ⟨0, by
      show IntKind.i64.wrap (IntKind.u64.wrap (t - (b - 1))) = _
      rw [IntKind.wrap_i64, IntKind.wrap_u64]; omega⟩
    rw [hq]; exact lt_f.2 (by omega)
  have e3 : dstep mc ⟨2, 2, 0, n, b, 0, x, 0⟩ = (mc, ⟨2, 3, 0, n, b, t, x, 0⟩) := by unfold dstep; simp [l0, hwb, hup]
  have hp := pl_id hn (i := b - 1) (by omega)
  have hm0 := Int.emod_nonneg (b - 1) (show n ≠ 0 by omega)
  have hm1 := Int.emod_lt_of_pos (b - 1) (show 0 < n by omega)
  have hla : ldV mc (2 + (b - 1) % n) = a := by
    rw [ld_in (by omega), c2 _ (by omega), if_neg (by omega)]
    have := h.el st.length (by simp)
    have e : t + ((st.length : Nat) : Int) = b - 1 := by omega
    rw [e] at this
    rw [this]
    simp [at0]
  have ha := h.ix a (by simp)
  have hwa : wi a = a := wii (by omega)
  have e01 : wi 1 = 1 := rfl
  by_cases hone : t = b - 1
  · have he : eqI t (b - 1) = true := eq_t.2 hone
    have e4 : dstep mc ⟨2, 3, 0, n, b, t, x, 0⟩ = (mc, ⟨2, 4, 0, n, b, t, a, 0⟩) := by unfold dstep; simp [hwb, hp, hla, hwa, he]
    obtain ⟨s1, s2⟩ := sw_in (m := mc) (i := 0) (a := t) (v := t + 1) (by omega) (by rw [c2 0 (by omega)]; exact h.t0)
    have hwt : wu (t + 1) = t + 1 := wui (by omega)
    have e5 : dstep mc ⟨2, 4, 0, n, b, t, a, 0⟩ = (mc.set 0 (t + 1), ⟨2, 6, 0, n, b, t, a, 0⟩) := by unfold dstep; simp [hwt, s1, s2]
    have e6 : dstep (mc.set 0 (t + 1)) ⟨2, 6, 0, n, b, t, a, 0⟩ = ((mc.set 0 (t + 1)).set 1 b, ⟨2, 7, 0, n, b, t, a, 1⟩) := by
      have := st_in (m := mc.set 0 (t + 1)) (i := 1) (v := b) (by simp; omega)
      unfold dstep; simp [e01, this]
    have r : dN m (d0 2 n x) 6 = ((mc.set 0 (t + 1)).set 1 b, ⟨2, 7, 0, n, b, t, a, 1⟩) := by rw [pf 4, dN_front, e3, dN_front, e4, dN_front, e5, dN_front, e6]; rfl
    have rk : drunK m (d0 2 n x) 20 = 6 := drun_eq (by omega) (fun j hj => by
      rcases (by omega : j = 0 ∨ j = 1 ∨ j = 2 ∨ j = 3 ∨ j = 4 ∨ j = 5) with rfl | rfl | rfl | rfl | rfl | rfl
      · rfl
      · exact p1
      · rw [p2]
      · rw [pf 1, dN_front, e3]; rfl
      · rw [pf 2, dN_front, e3, dN_front, e4]; rfl
      · rw [pf 3, dN_front, e3, dN_front, e4, dN_front, e5]; rfl) (by rw [r]; simp)
    have hs0 : mc.set 0 (t + 1) = mc.set (Int.toNat 0) (t + 1) := rfl
    have hs1 : (mc.set 0 (t + 1)).set 1 b = (mc.set 0 (t + 1)).set (Int.toNat 1) b := rfl
    have hst : st = [] := by
      cases st with
      | nil => rfl
      | cons y ys => simp at htb; omega
    subst hst
    refine ⟨_, _, b, b, (congrArg (dN m _) rk).trans r, rfl, rfl, rfl, hn, fun v hv => ?_, by simp [c1], ?_, ?_, (by simp at htb ⊢; omega), (fun i hi => by simp at hi), (fun a ha => by cases ha), hk⟩
    · rcases List.mem_or_eq_of_mem_set hv with h' | rfl
      · rcases List.mem_or_eq_of_mem_set h' with h2 | rfl
        · exact c3 v h2
        · unfold R64; omega
      · unfold R64; omega
    · rw [hs1, at0_setI _ _ _ _ (by omega) (by omega), if_neg (by omega), hs0, at0_setI _ _ _ _ (by omega) (by omega), if_pos ⟨rfl, by omega⟩]; omega
    · rw [hs1, at0_setI _ _ _ _ (by omega) (by omega), if_pos ⟨rfl, by simp; omega⟩]
  · have he : eqI t (b - 1) = false := eq_f.2 hone
    have e4 : dstep mc ⟨2, 3, 0, n, b, t, x, 0⟩ = (mc, ⟨2, 4, 0, n, b, t, a, 1⟩) := by unfold dstep; simp [hwb, hp, hla, hwa, he]
    have r : dN m (d0 2 n x) 4 = (mc, ⟨2, 4, 0, n, b, t, a, 1⟩) := by rw [pf 2, dN_front, e3, dN_front, e4]; rfl
    have rk : drunK m (d0 2 n x) 20 = 4 := drun_eq (by omega) (fun j hj => by
      rcases (by omega : j = 0 ∨ j = 1 ∨ j = 2 ∨ j = 3) with rfl | rfl | rfl | rfl
      · rfl
      · exact p1
      · rw [p2]
      · rw [pf 1, dN_front, e3]; rfl) (by rw [r]; simp)
    refine ⟨_, _, t, b - 1, (congrArg (dN m _) rk).trans r, rfl, rfl, rfl, hn, c3, c1, ?_, ?_, by omega, fun i hi => ?_, fun y hy => h.ix y (by simp [hy]), hk⟩
    · rw [c2 0 (by omega)]; exact h.t0
    · rw [c2 1 (by omega)]; rfl
    · have hi0 := Int.emod_nonneg (t + i) (show n ≠ 0 by omega)
      rw [c2 _ (by omega), if_neg (by omega), h.el i (by simp; omega)]
      simp [at0, List.getElem?_append_left hi]
theorem steal_empty (h : DOk n m [] t b k) : ∃ d, dN m (d0 3 n x) (drunK m (d0 3 n x) 20) = (m, d) ∧ d.out = 2 ∧ d.kind = 3 := by
  obtain ⟨h1, h2, h3, h4, h5, h6⟩ := h.base
  have htb := h.tb
  have hbt : b = t := by have := htb.2.1; simp at this; exact this
  have e1 : dstep m (d0 3 n x) = (m, ⟨3, 1, 0, n, 0, t, x, 0⟩) := by unfold d0 dstep; simp [h1]
  have hup : ltI 0 (wi (wu (b - t))) = false := by rw [wui (by omega), wii (by omega)]; exact lt_f.2 (by omega)
  have e2 : dstep m ⟨3, 1, 0, n, 0, t, x, 0⟩ = (m, ⟨3, 2, 0, n, b, t, x, 2⟩) := by unfold dstep; simp [h2, hup]
  have r : dN m (d0 3 n x) 2 = (m, ⟨3, 2, 0, n, b, t, x, 2⟩) := by rw [dN_front, e1, dN_front, e2]; rfl
  have rk : drunK m (d0 3 n x) 20 = 2 := drun_eq (by omega) (fun j hj => by
    rcases (by omega : j = 0 ∨ j = 1) with rfl | rfl
    · rfl
    · rw [dN_front, e1]; rfl) (by rw [r]; simp)
  exact ⟨_, (congrArg (dN m _) rk).trans r, rfl, rfl⟩
theorem steal_run {a : Int} (h : DOk n m (a :: st) t b k) : ∃ m' d, dN m (d0 3 n x) (drunK m (d0 3 n x) 20) = (m', d) ∧ d.out = 1 ∧ d.x = a ∧ d.kind = 3 ∧ DOk n m' st (t + 1) b k := by
  obtain ⟨h1, h2, h3, h4, h5, h6⟩ := h.base
  have htb := h.tb
  have hn := h.hn
  have hl := h.l
  have hk := h.hk
  rw [List.length_cons] at htb
  have e1 : dstep m (d0 3 n x) = (m, ⟨3, 1, 0, n, 0, t, x, 0⟩) := by unfold d0 dstep; simp [h1]
  have hup : ltI 0 (wi (wu (b - t))) = true := by rw [wui (by omega), wii (by omega)]; exact lt_t.2 (by omega)
  have e2 : dstep m ⟨3, 1, 0, n, 0, t, x, 0⟩ = (m, ⟨3, 2, 0, n, b, t, x, 0⟩) := by unfold dstep; simp [h2, hup]
  have hp := pl_id hn (i := t) (by omega)
  have hm0 := Int.emod_nonneg t (show n ≠ 0 by omega)
  have hm1 := Int.emod_lt_of_pos t (show 0 < n by omega)
  have hla : ldV m (2 + t % n) = a := by
    rw [ld_in (by omega)]
    have := h.el 0 (by simp)
    rw [Int.natCast_zero, Int.add_zero] at this
    rw [this]; rfl
  have ha := h.ix a (by simp)
  have hwa : wi a = a := wii (by omega)
  have e3 : dstep m ⟨3, 2, 0, n, b, t, x, 0⟩ = (m, ⟨3, 3, 0, n, b, t, a, 0⟩) := by unfold dstep; simp [hp, hla, hwa]
  obtain ⟨s1, s2⟩ := sw_in (m := m) (i := 0) (a := t) (v := t + 1) (by omega) h.t0
  have hwt : wu (t + 1) = t + 1 := wui (by omega)
  have e4 : dstep m ⟨3, 3, 0, n, b, t, a, 0⟩ = (m.set 0 (t + 1), ⟨3, 4, 0, n, b, t, a, 1⟩) := by unfold dstep; simp [hwt, s1, s2]
  have r : dN m (d0 3 n x) 4 = (m.set 0 (t + 1), ⟨3, 4, 0, n, b, t, a, 1⟩) := by rw [dN_front, e1, dN_front, e2, dN_front, e3, dN_front, e4]; rfl
  have rk : drunK m (d0 3 n x) 20 = 4 := drun_eq (by omega) (fun j hj => by
    rcases (by omega : j = 0 ∨ j = 1 ∨ j = 2 ∨ j = 3) with rfl | rfl | rfl | rfl
    · rfl
    · rw [dN_front, e1]; rfl
    · rw [dN_front, e1, dN_front, e2]; rfl
    · rw [dN_front, e1, dN_front, e2, dN_front, e3]; rfl) (by rw [r]; simp)
  have hs0 : m.set 0 (t + 1) = m.set (Int.toNat 0) (t + 1) := rfl
  refine ⟨_, _, (congrArg (dN m _) rk).trans r, rfl, rfl, rfl, hn, fun v hv => ?_, by simp [hl], ?_, ?_, by omega, fun i hi => ?_, fun y hy => h.ix y (by simp [hy]), hk⟩
  · rcases List.mem_or_eq_of_mem_set hv with h' | rfl
    · exact h.mR v h'
    · unfold R64; omega
  · rw [hs0, at0_setI _ _ _ _ (by omega) (by omega), if_pos ⟨rfl, by omega⟩]
  · rw [hs0, at0_setI _ _ _ _ (by omega) (by omega), if_neg (by omega)]; exact h.b0
  · have hi0 := Int.emod_nonneg (t + 1 + i) (show n ≠ 0 by omega)
    rw [hs0, at0_setI _ _ _ _ (by omega) (by omega), if_neg (by omega)]
    have := h.el (i + 1) (by simp; omega)
    have e : t + ((i + 1 : Nat) : Int) = t + 1 + i := by omega
    rw [e] at this
    rw [this]; simp [at0]
end
end Go.Nx
