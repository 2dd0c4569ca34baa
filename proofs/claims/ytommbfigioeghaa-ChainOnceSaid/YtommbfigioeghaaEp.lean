/-
  THE WORLD OF FIVE MACHINES: WHAT STAYS SO; VERSIONS; WHO STOPS.
-/
import Derived.Test.YtommbfigioeghaaEo
set_option linter.unusedVariables false
set_option linter.unusedSimpArgs false
set_option maxRecDepth 20000
set_option maxHeartbeats 4000000
namespace Go.Nx
open Go.RowKit Go.Proofs

theorem shr32 (a : Int) : shrI .u64 a 32 = a / 4294967296 := by
  unfold shrI
  exact Int.fdiv_eq_ediv_of_nonneg _ (by decide)
structure MOk (c : Mach) : Prop where
  h : R64 c.h
  go : c.out = 0 → c.next = 1 ∧ (c.head = 0 ∨ c.head = 1) ∧ (c.kind = 1 ∨ c.kind = 2) ∧ 0 ≤ c.pc ∧ c.pc ≤ 2
  x : 0 ≤ c.x ∧ c.x < 4294967296
  push : c.out = 0 → c.kind = 1 → 1 ≤ c.x
  pop : c.out = 0 → c.kind = 2 → 1 ≤ c.pc → nd c.h ≠ 0
def ver (m : List Int) : Int := at0 m 0 / 4294967296 + at0 m 1 / 4294967296
structure Inv (w : Wd) (n : Nat) : Prop where
  m : ∀ v ∈ w.m, R64 v
  ml : w.m.length = 10
  who : w.who.length = 5
  has : w.has.length = 5
  ok : ∀ c ∈ w.who, MOk c
  hs : ∀ x ∈ w.has, 0 ≤ x ∧ x < 4294967296
  v : ver w.m = w.swap
  n : 0 ≤ w.swap ∧ w.swap ≤ n
theorem at0R {m : List Int} (hm : ∀ v ∈ m, R64 v) (i : Int) : R64 (at0 m i) := by
  unfold at0
  cases e : m[i.toNat]? with
  | none => simp; unfold R64; omega
  | some v => exact hm v (List.mem_of_getElem? e)
theorem at0_setI (l : List Int) (i j v : Int) (hi : 0 ≤ i) (hj : 0 ≤ j) : at0 (l.set i.toNat v) j = if i = j ∧ j < l.length then v else at0 l j := by
  have h1 : (j.toNat : Int) = j := Int.toNat_of_nonneg hj
  rw [← h1, at0_set]
  by_cases h : i = j
  · subst h
    by_cases h2 : i < l.length
    · have : i.toNat < l.length := by omega
      simp [this, h1, h2]
    · have : ¬ i.toNat < l.length := by omega
      simp [this, h1, h2]
  · have : ¬ i.toNat = j.toNat := by omega
    simp [this, h1, h]
theorem w_id {n : Int} (h : 0 ≤ n ∧ n < 9223372036854775807) : IntKind.i64.wrap n = n := wrap_i64 ⟨by omega, by omega⟩
/-- a machine's step: what becomes of it -/
theorem mok_step {m : List Int} (hm : ∀ v ∈ m, R64 v) {c : Mach} (hc : MOk c) : MOk (stepC m c) := by
  unfold stepC
  split
  · rename_i ha
    have ho := ha.1
    obtain ⟨g1, g2, g3, g4, g5⟩ := hc.go ho
    have hx := hc.x
    have hnd := R_nd c.h
    split
    · refine ⟨doV_R hm _ _, fun h => ⟨g1, g2, g3, by simp⟩, hx, fun h hk => hc.push ho hk, fun h hk _ => ?_⟩
      simp only at h hk ⊢
      intro e
      simp [hk, e] at h
    · split
      · split
        · rename_i hp1 hk
          refine ⟨hc.h, fun h => ⟨g1, g2, g3, by simp⟩, hx, fun h hk => hc.push ho hk, fun h hk' _ => ?_⟩
          simp only at hk'; omega
        · rename_i hp0 hp1 hk
          exact ⟨hc.h, fun h => ⟨g1, g2, g3, by simp⟩, hx, fun h hk => hc.push ho hk, fun h hk' _ => hc.pop ho hk' (by omega)⟩
      · split
        · refine ⟨hc.h, fun h => by simp at h, ?_, fun h => by simp at h, fun h => by simp at h⟩
          simp only
          split
          · exact R_nd c.h
          · exact hx
        · exact ⟨hc.h, fun h => ⟨g1, g2, g3, by simp⟩, hx, fun h hk => hc.push ho hk, fun h hk' hp => by simp at hp⟩
  · exact hc
/-- .. and of the versions -/
theorem ver_step {m : List Int} (hm : ∀ v ∈ m, R64 v) (hl : m.length = 10) (hv : ver m < 4294967295) {c : Mach} (hc : MOk c) (ho : c.out = 0) : ver (stepL m c) = ver m + if (stepC m c).out = 1 then 1 else 0 := by
  obtain ⟨g1, g2, g3, g4, g5⟩ := hc.go ho
  have ha : act c := ⟨ho, g3, g4, g5⟩
  have h0 := at0R hm 0
  have h1 := at0R hm 1
  unfold R64 at h0 h1
  unfold stepL stepC
  rw [if_pos ha, if_pos ha]
  by_cases p0 : c.pc = 0
  · rw [if_pos p0, if_pos p0]
    by_cases q : c.kind = 2 ∧ nd (ldV m c.head) = 0 <;> simp [q]
  · rw [if_neg p0, if_neg p0]
    by_cases p1 : c.pc = 1
    · rw [if_pos p1, if_pos p1]
      by_cases k1 : c.kind = 1
      · rw [if_pos k1, if_pos k1]
        have hx := hc.push ho k1
        have hx2 := hc.x
        have ew : IntKind.i64.wrap (c.next + c.x) = 1 + c.x := by rw [g1]; exact w_id (by omega)
        simp only [ew]
        unfold stL doL ver
        split
        · rw [if_pos rfl, at0_setI _ _ _ _ (by omega) (by omega), at0_setI _ _ _ _ (by omega) (by omega), if_neg (by omega), if_neg (by omega)]
          simp
        · simp
      · rw [if_neg k1, if_neg k1]; simp
    · rw [if_neg p1, if_neg p1]
      have hh := hc.h
      unfold R64 at hh
      by_cases hb : doB m 3 c.head c.h = true
      · rw [if_pos hb]
        have hb' := hb
        unfold doB at hb'
        have hb' := of_decide_eq_true hb'
        obtain ⟨b1, b2, _, _, b3⟩ := hb'
        have b3 := b3 rfl
        have hpk : ∀ nod, pk (vn c.h) nod / 4294967296 = c.h / 4294967296 + 1 := by
          intro nod
          have e1 : vn c.h = c.h / 4294967296 + 1 := by unfold vn; rw [shr32]; exact wrap_u64 ⟨by omega, by omega⟩
          rw [e1]
          unfold pk
          have : c.h / 4294967296 < 4294967295 := by
            unfold ver at hv
            rcases g2 with g | g <;> rw [g] at b3 <;> omega
          omega
        generalize hn : (if c.kind = 2 then c.y else c.x) = nod
        have hp := hpk nod
        generalize pk (vn c.h) nod = pv at hp ⊢
        unfold doL ver
        rw [if_pos ⟨b1, b2⟩, if_neg (by decide), if_pos rfl, if_pos b3, at0_setI _ _ _ _ b1 (by omega), at0_setI _ _ _ _ b1 (by omega)]
        rcases g2 with g | g <;> rw [g] at b3 ⊢ <;> simp [hl, hp, b3] <;> omega
      · rw [if_neg hb]
        have : doL m 3 c.head c.h (pk (vn c.h) (if c.kind = 2 then c.y else c.x)) = m := by
          unfold doL
          split
          · rename_i hi
            rw [if_neg (by decide), if_pos rfl]
            split
            · rename_i he
              exfalso; apply hb
              unfold doB
              exact decide_eq_true ⟨hi.1, hi.2, by decide, by decide, fun _ => he⟩
            · rfl
          · rfl
        rw [this]; simp
theorem mAt_mem {l : List Mach} {i : Nat} (h : i < l.length) : mAt l i ∈ l := by simp [mAt, h]
theorem mok_start {b h : Int} (hb : R8 b) (hh : 0 ≤ h ∧ h < 4294967296) : MOk (startM b h) := by
  unfold R8 at hb
  unfold startM
  refine ⟨by simp only; unfold R64; omega, fun _ => ⟨rfl, ?_, ?_, by simp⟩, hh, fun _ hk => ?_, fun _ _ hp => by simp at hp⟩
  · simp only; omega
  · simp only; split <;> simp
  · simp only at hk ⊢
    split at hk
    · rename_i e; have := lt_t.1 e; omega
    · omega
theorem inv_step {w : Wd} {n : Nat} {b : Int} (hb : R8 b) (h : Inv w n) (hn : n < 400) : Inv (stepW w b) (n + 1) := by
  have hb' := hb
  unfold R8 at hb'
  have hk : (b % 5).toNat < 5 := by omega
  have hsw : IntKind.i64.wrap (w.swap + 1) = w.swap + 1 := w_id (by have := h.n; omega)
  unfold stepW
  simp only
  rw [hsw]
  generalize hkk : (b % 5).toNat = k at hk
  have hx := h.hs (at0 w.has k) (at0_mem (by have := h.has; simp; omega))
  have hc1 : MOk (if (mAt w.who k).out ≠ 0 then startM b (at0 w.has k) else mAt w.who k) ∧ (if (mAt w.who k).out ≠ 0 then startM b (at0 w.has k) else mAt w.who k).out = 0 := by
    split
    · exact ⟨mok_start hb hx, rfl⟩
    · rename_i e; exact ⟨h.ok _ (mAt_mem (by rw [h.who]; exact hk)), by simpa using e⟩
  generalize (if (mAt w.who k).out ≠ 0 then startM b (at0 w.has k) else mAt w.who k) = c1 at hc1
  obtain ⟨hc, ho⟩ := hc1
  have hv := ver_step h.m h.ml (by have := h.v; have := h.n; omega) hc ho
  have hc2 := mok_step h.m hc
  have hmR := mach_R h.m hc.h
  have hwho : ∀ c ∈ w.who.set k (stepC w.m c1), MOk c := fun c hcm => by
    rcases List.mem_or_eq_of_mem_set hcm with h' | rfl
    · exact h.ok c h'
    · exact hc2
  have hvn := h.v
  have hnn := h.n
  split
  · rename_i e
    rw [if_pos e] at hv
    refine ⟨hmR.1, by rw [stepL_len]; exact h.ml, by simp [h.who], by simp [h.has], hwho, fun x hxm => ?_, by simp only; omega, by simp only; omega⟩
    rcases List.mem_or_eq_of_mem_set hxm with h' | rfl
    · exact h.hs x h'
    · split
      · omega
      · exact hc2.x
  · rename_i e
    rw [if_neg e] at hv
    exact ⟨hmR.1, by rw [stepL_len]; exact h.ml, by simp [h.who], h.has, hwho, h.hs, by simp only; omega, by simp only; omega⟩
end Go.Nx
