/-
  ALONE A LIST IS A STACK.
-/
import Derived.Test.YtlgnjeilhjhnkaaCr
import Derived.Test.YtlgnjeilhjhnkaaCt
set_option linter.unusedVariables false
set_option linter.unusedSimpArgs false
set_option maxRecDepth 20000
set_option maxHeartbeats 4000000
namespace Go.Nx
open Go.RowKit Go.Proofs

/-- the nodes of a list, from one on -/
def Ch (m : List Int) : Int → List Int → Prop
  | x, [] => x = 0
  | x, a :: r => x = a ∧ 1 ≤ a ∧ a ≤ 40 ∧ Ch m (at0 m (1 + a)) r
theorem Ch.set {m : List Int} {i v : Int} : ∀ {st : List Int} {x : Int}, (∀ a ∈ st, 1 + a ≠ i) → Ch m x st → 0 ≤ i → Ch (m.set i.toNat v) x st
  | [], x, _, h, _ => h
  | a :: r, x, hn, ⟨h1, h2, h3, h4⟩, hi => by
    refine ⟨h1, h2, h3, ?_⟩
    rw [at0_setI _ _ _ _ hi (by omega), if_neg (by have := hn a (by simp); omega)]
    exact Ch.set (fun b hb => hn b (by simp [hb])) h4 hi
theorem Ch.bound {m : List Int} : ∀ {st : List Int} {x : Int}, Ch m x st → 0 ≤ x ∧ x ≤ 40
  | [], x, h => by have : x = 0 := h; omega
  | a :: r, x, ⟨h1, h2, h3, h4⟩ => by omega
theorem goL_ch {m : List Int} (hl : m.length = 42) : ∀ (f : Nat) (st out : List Int) (x : Int), Ch m x st → out.length + st.length ≤ 40 → st.length < f → goL m 1 99 f out x = out ++ st
  | 0, st, out, x, _, _, h => by omega
  | f + 1, [], out, x, h, _, _ => by
    have h : x = 0 := h
    rw [goL, if_neg (by omega)]; simp
  | f + 1, a :: r, out, x, ⟨h1, h2, h3, h4⟩, ho, hf => by
    simp at ho hf
    subst h1
    have e1 : IntKind.i64.wrap (1 + x) = 1 + x := w_id (by omega)
    have hb := h4.bound
    rw [goL, if_pos ⟨by omega, by omega, by omega⟩, e1, ld_at (by omega), w_id (by omega), goL_ch hl f r _ _ h4 (by simp; omega) (by omega)]
    simp
structure SOk (m st : List Int) (k : Nat) : Prop where
  mR : ∀ v ∈ m, R64 v
  l : m.length = 42
  ch : Ch m (nd (at0 m 0)) st
  dup : st.Nodup
  le : ∀ a ∈ st, 1 ≤ a ∧ a ≤ k
theorem SOk.len {m st : List Int} {k : Nat} (h : SOk m st k) : st.length ≤ k := few k st h.dup h.le
def c0 (kind x : Int) : Mach := ⟨kind, 0, 0, 1, 0, x, 0, 0⟩
theorem runK3 {m : List Int} {c : Mach} (h0 : (runN m c 0).2.out = 0) (h1 : (runN m c 1).2.out = 0) (h2 : (runN m c 2).2.out = 0) (h3 : (runN m c 3).2.out ≠ 0) : runK m c 9 = 3 := by
  unfold runK
  show goK m c 9 0 = 3
  rw [goK, if_pos h0, goK, if_pos h1, goK, if_pos h2, goK, if_neg h3]
theorem runK1 {m : List Int} {c : Mach} (h0 : (runN m c 0).2.out = 0) (h1 : (runN m c 1).2.out ≠ 0) : runK m c 9 = 1 := by
  unfold runK
  show goK m c 9 0 = 1
  rw [goK, if_pos h0, goK, if_neg h1]
theorem pk_nd {v x : Int} (h : 0 ≤ x ∧ x ≤ 40) : Go.Nx.nd (pk v x) = x := by unfold Go.Nx.nd pk; omega
theorem push_run {m st : List Int} {k : Nat} (h : SOk m st k) (hk : k < 40) : ∃ m' c', runN m (c0 1 ((k : Int) + 1)) (runK m (c0 1 ((k : Int) + 1)) 9) = (m', c') ∧ runK m (c0 1 ((k : Int) + 1)) 9 = 3 ∧ c'.out = 1 ∧ SOk m' (((k : Int) + 1) :: st) (k + 1) := by
  have hh := at0R h.mR 0
  have hl := h.l
  have e1 : stepC m (c0 1 ((k : Int) + 1)) = ⟨1, 1, 0, 1, at0 m 0, (k : Int) + 1, 0, 0⟩ := by
    have ha : act (c0 1 ((k : Int) + 1)) := ⟨rfl, .inl rfl, by simp [c0], by simp [c0]⟩
    have hld : ldV m 0 = at0 m 0 := ld_at (by omega)
    rw [stepC, if_pos ha]; simp [c0, hld]
  have e2 : stepL m (c0 1 ((k : Int) + 1)) = m := by simp [stepL, c0]
  have ha1 : act ⟨1, 1, 0, 1, at0 m 0, (k : Int) + 1, 0, 0⟩ := ⟨rfl, .inl rfl, by simp, by simp⟩
  have e3 : stepC m ⟨1, 1, 0, 1, at0 m 0, (k : Int) + 1, 0, 0⟩ = ⟨1, 2, 0, 1, at0 m 0, (k : Int) + 1, 0, 0⟩ := by rw [stepC, if_pos ha1]; simp
  have ew : IntKind.i64.wrap (1 + ((k : Int) + 1)) = 1 + ((k : Int) + 1) := w_id (by omega)
  have e4 : stepL m ⟨1, 1, 0, 1, at0 m 0, (k : Int) + 1, 0, 0⟩ = m.set (1 + ((k : Int) + 1)).toNat (nd (at0 m 0)) := by
    rw [stepL, if_pos ha1, if_neg (by simp), if_pos rfl, if_pos rfl]
    show stL m (IntKind.i64.wrap (1 + ((k : Int) + 1))) (nd (at0 m 0)) = _
    rw [ew]
    unfold stL doL
    rw [if_pos (by omega), if_pos rfl]
  generalize hm1 : m.set (1 + ((k : Int) + 1)).toNat (nd (at0 m 0)) = m1 at e4
  have hm10 : at0 m1 0 = at0 m 0 := by rw [← hm1, at0_setI _ _ _ _ (by omega) (by omega), if_neg (by omega)]
  have hm1l : m1.length = 42 := by rw [← hm1]; simp [hl]
  have ha2 : act ⟨1, 2, 0, 1, at0 m 0, (k : Int) + 1, 0, 0⟩ := ⟨rfl, .inl rfl, by simp, by simp⟩
  have hb : doB m1 3 0 (at0 m 0) = true := by
    unfold doB
    exact decide_eq_true ⟨by omega, by omega, by decide, by decide, fun _ => hm10⟩
  have e5 : stepC m1 ⟨1, 2, 0, 1, at0 m 0, (k : Int) + 1, 0, 0⟩ = ⟨1, 3, 0, 1, at0 m 0, (k : Int) + 1, 0, 1⟩ := by rw [stepC, if_pos ha2]; simp [hb]
  have e6 : stepL m1 ⟨1, 2, 0, 1, at0 m 0, (k : Int) + 1, 0, 0⟩ = m1.set 0 (pk (vn (at0 m 0)) ((k : Int) + 1)) := by
    rw [stepL, if_pos ha2]
    rw [if_neg (by simp), if_neg (by simp)]
    unfold doL
    rw [if_pos (by simp only; omega), if_neg (by decide), if_pos rfl, if_pos (by simp only; exact hm10)]
    rfl
  have r3 : runN m (c0 1 ((k : Int) + 1)) 3 = (m1.set 0 (pk (vn (at0 m 0)) ((k : Int) + 1)), ⟨1, 3, 0, 1, at0 m 0, (k : Int) + 1, 0, 1⟩) := by
    rw [runN_front, runN_front, runN_front, e1, e2, e3, e4, e5, e6]; rfl
  have rk : runK m (c0 1 ((k : Int) + 1)) 9 = 3 := by
    refine runK3 rfl ?_ ?_ (by rw [r3]; simp)
    · rw [runN_front, e1]; rfl
    · rw [runN_front, runN_front, e1, e2, e3]; rfl
  refine ⟨_, _, (congrArg (runN m _) rk).trans r3, rk, rfl, ?_⟩
  have hset : m1.set 0 (pk (vn (at0 m 0)) ((k : Int) + 1)) = m1.set (Int.toNat 0) (pk (vn (at0 m 0)) ((k : Int) + 1)) := rfl
  have hchb := h.ch.bound
  refine ⟨fun v hv => ?_, by simp [hm1l], ?_, ?_, ?_⟩
  · rcases List.mem_or_eq_of_mem_set hv with h' | rfl
    · rw [← hm1] at h'
      rcases List.mem_or_eq_of_mem_set h' with h2 | rfl
      · exact h.mR v h2
      · have := R_nd (at0 m 0); unfold R64; omega
    · exact R_pk _ _
  · rw [hset, at0_setI _ _ _ _ (by omega) (by omega), if_pos ⟨rfl, by omega⟩, pk_nd (by omega)]
    refine ⟨rfl, by omega, by omega, ?_⟩
    rw [at0_setI _ _ _ _ (by omega) (by omega), if_neg (by omega), ← hm1, at0_setI _ _ _ _ (by omega) (by omega), if_pos ⟨rfl, by omega⟩]
    refine Ch.set (fun a ha => ?_) (Ch.set (fun a ha => ?_) h.ch (by omega)) (by omega)
    · have := h.le a ha; omega
    · have := h.le a ha; omega
  · rw [List.nodup_cons]
    exact ⟨fun hm => by have := h.le _ hm; omega, h.dup⟩
  · intro a ha
    rcases List.mem_cons.1 ha with rfl | ha
    · omega
    · have := h.le a ha; omega
theorem pop_run {m r : List Int} {a x : Int} {k : Nat} (h : SOk m (a :: r) k) (hk : k < 40) : ∃ m' c', runN m (c0 2 x) (runK m (c0 2 x) 9) = (m', c') ∧ runK m (c0 2 x) 9 = 3 ∧ c'.out = 1 ∧ c'.x = a ∧ SOk m' r (k + 1) := by
  have hh := at0R h.mR 0
  have hl := h.l
  obtain ⟨hc1, hc2, hc3, hc4⟩ := h.ch
  have hcb := hc4.bound
  have e1 : stepC m (c0 2 x) = ⟨2, 1, 0, 1, at0 m 0, x, 0, 0⟩ := by
    have ha : act (c0 2 x) := ⟨rfl, .inr rfl, by simp [c0], by simp [c0]⟩
    have hne : nd (at0 m 0) ≠ 0 := by omega
    have hld : ldV m 0 = at0 m 0 := ld_at (by omega)
    rw [stepC, if_pos ha]; simp [c0, hld, hne]
  have e2 : stepL m (c0 2 x) = m := by simp [stepL, c0]
  have ha1 : act ⟨2, 1, 0, 1, at0 m 0, x, 0, 0⟩ := ⟨rfl, .inr rfl, by simp, by simp⟩
  have ew : IntKind.i64.wrap (1 + nd (at0 m 0)) = 1 + a := by rw [hc1]; exact w_id (by omega)
  have e3 : stepC m ⟨2, 1, 0, 1, at0 m 0, x, 0, 0⟩ = ⟨2, 2, 0, 1, at0 m 0, x, at0 m (1 + a), 0⟩ := by
    have hld : ldV m (1 + a) = at0 m (1 + a) := ld_at (by omega)
    have hwi : IntKind.i64.wrap (at0 m (1 + a)) = at0 m (1 + a) := w_id (by omega)
    rw [stepC, if_pos ha1]; simp [ew, hld, hwi]
  have e4 : stepL m ⟨2, 1, 0, 1, at0 m 0, x, 0, 0⟩ = m := by rw [stepL, if_pos ha1]; simp
  have ha2 : act ⟨2, 2, 0, 1, at0 m 0, x, at0 m (1 + a), 0⟩ := ⟨rfl, .inr rfl, by simp, by simp⟩
  have hb : doB m 3 0 (at0 m 0) = true := by
    unfold doB
    exact decide_eq_true ⟨by omega, by omega, by decide, by decide, fun _ => rfl⟩
  have e5 : stepC m ⟨2, 2, 0, 1, at0 m 0, x, at0 m (1 + a), 0⟩ = ⟨2, 3, 0, 1, at0 m 0, a, at0 m (1 + a), 1⟩ := by rw [stepC, if_pos ha2]; simp [hb, hc1]
  have e6 : stepL m ⟨2, 2, 0, 1, at0 m 0, x, at0 m (1 + a), 0⟩ = m.set 0 (pk (vn (at0 m 0)) (at0 m (1 + a))) := by
    rw [stepL, if_pos ha2]
    rw [if_neg (by simp), if_neg (by simp)]
    unfold doL
    rw [if_pos (by simp only; omega), if_neg (by decide), if_pos rfl, if_pos rfl]
    rfl
  have r3 : runN m (c0 2 x) 3 = (m.set 0 (pk (vn (at0 m 0)) (at0 m (1 + a))), ⟨2, 3, 0, 1, at0 m 0, a, at0 m (1 + a), 1⟩) := by
    rw [runN_front, runN_front, runN_front, e1, e2, e3, e4, e5, e6]; rfl
  have rk : runK m (c0 2 x) 9 = 3 := by
    refine runK3 rfl ?_ ?_ (by rw [r3]; simp)
    · rw [runN_front, e1]; rfl
    · rw [runN_front, runN_front, e1, e2, e3]; rfl
  refine ⟨_, _, (congrArg (runN m _) rk).trans r3, rk, rfl, rfl, ?_⟩
  have hset : m.set 0 (pk (vn (at0 m 0)) (at0 m (1 + a))) = m.set (Int.toNat 0) (pk (vn (at0 m 0)) (at0 m (1 + a))) := rfl
  refine ⟨fun v hv => ?_, by simp [hl], ?_, ?_, ?_⟩
  · rcases List.mem_or_eq_of_mem_set hv with h' | rfl
    · exact h.mR v h'
    · exact R_pk _ _
  · rw [hset, at0_setI _ _ _ _ (by omega) (by omega), if_pos ⟨rfl, by omega⟩, pk_nd (by omega)]
    refine Ch.set (fun b hb => ?_) hc4 (by omega)
    have := h.le b (by simp [hb]); omega
  · exact (List.nodup_cons.1 h.dup).2
  · intro b hb
    have := h.le b (by simp [hb]); omega
theorem empty_run {m : List Int} {x : Int} {k : Nat} (h : SOk m [] k) : ∃ c', runN m (c0 2 x) (runK m (c0 2 x) 9) = (m, c') ∧ runK m (c0 2 x) 9 = 1 ∧ c'.out = 2 := by
  have hl := h.l
  have hc : nd (at0 m 0) = 0 := h.ch
  have e1 : stepC m (c0 2 x) = ⟨2, 1, 0, 1, at0 m 0, x, 0, 2⟩ := by
    have ha : act (c0 2 x) := ⟨rfl, .inr rfl, by simp [c0], by simp [c0]⟩
    have hld : ldV m 0 = at0 m 0 := ld_at (by omega)
    rw [stepC, if_pos ha]; simp [c0, hld, hc]
  have e2 : stepL m (c0 2 x) = m := by simp [stepL, c0]
  have r1 : runN m (c0 2 x) 1 = (m, ⟨2, 1, 0, 1, at0 m 0, x, 0, 2⟩) := by rw [runN_front, e1, e2]; rfl
  have rk : runK m (c0 2 x) 9 = 1 := runK1 rfl (by rw [r1]; simp)
  exact ⟨_, (congrArg (runN m _) rk).trans r1, rk, rfl⟩
theorem SOk.more {m st : List Int} {k : Nat} (h : SOk m st k) : SOk m st (k + 1) := ⟨h.mR, h.l, h.ch, h.dup, fun a ha => by have := h.le a ha; omega⟩
theorem SOk.lists {m st : List Int} {k : Nat} (h : SOk m st k) (hk : k ≤ 40) : listL m 0 1 99 = st := by
  have hl := h.l
  have := h.len
  unfold listL
  rw [ld_at (by omega), goL_ch hl 1001 st [] _ h.ch (by simp; omega) (by omega)]
  rfl
end Go.Nx
