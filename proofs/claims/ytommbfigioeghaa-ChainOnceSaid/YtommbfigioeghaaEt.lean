/-
  EACH NODE IS ONCE: plainly.
-/
import Derived.Test.YtommbfigioeghaaEq
set_option linter.unusedVariables false
set_option linter.unusedSimpArgs false
set_option maxRecDepth 20000
set_option maxHeartbeats 4000000
namespace Go.Nx
open Go.RowKit Go.Proofs

theorem ld_at {m : List Int} {i : Int} (h : 0 ≤ i ∧ i < m.length) : ldV m i = at0 m i := by
  unfold ldV doV; rw [if_pos h, if_pos (by decide)]
/-- the nodes of a list, from one on -/
def Ch (m : List Int) : Int → List Int → Prop
  | x, [] => x = 0
  | x, a :: r => x = a ∧ 1 ≤ a ∧ a ≤ 8 ∧ Ch m (at0 m (1 + a)) r
theorem Ch.set {m : List Int} {i v : Int} : ∀ {st : List Int} {x : Int}, (∀ a ∈ st, 1 + a ≠ i) → Ch m x st → 0 ≤ i → Ch (m.set i.toNat v) x st
  | [], x, _, h, _ => h
  | a :: r, x, hn, ⟨h1, h2, h3, h4⟩, hi => by
    refine ⟨h1, h2, h3, ?_⟩
    rw [at0_setI _ _ _ _ hi (by omega), if_neg (by have := hn a (by simp); omega)]
    exact Ch.set (fun b hb => hn b (by simp [hb])) h4 hi
theorem Ch.bound {m : List Int} : ∀ {st : List Int} {x : Int}, Ch m x st → 0 ≤ x ∧ x ≤ 8
  | [], x, h => by have : x = 0 := h; omega
  | a :: r, x, ⟨h1, h2, h3, h4⟩ => by omega
theorem Ch.mem {m : List Int} : ∀ {st : List Int} {x : Int}, Ch m x st → ∀ a ∈ st, 1 ≤ a ∧ a ≤ 8
  | [], x, h, a, ha => by simp at ha
  | b :: r, x, ⟨h1, h2, h3, h4⟩, a, ha => by
    rcases List.mem_cons.1 ha with rfl | ha
    · exact ⟨h2, h3⟩
    · exact h4.mem a ha
theorem goL_ch {m : List Int} (hl : m.length = 10) : ∀ (f : Nat) (st out : List Int) (x : Int), Ch m x st → out.length + st.length ≤ 40 → st.length < f → goL m 1 50 f out x = out ++ st
  | 0, st, out, x, _, _, h => by omega
  | f + 1, [], out, x, h, _, _ => by
    have h : x = 0 := h
    rw [goL, if_neg (by omega)]; simp
  | f + 1, a :: r, out, x, ⟨h1, h2, h3, h4⟩, ho, hf => by
    simp at ho hf
    subst h1
    have e1 : IntKind.i64.wrap (1 + x) = 1 + x := w_id (by omega)
    have hb := h4.bound
    rw [goL, if_pos ⟨by omega, by omega, by omega⟩, e1, ld_at (by omega), w_id (by omega), goL_ch hl f r _ _ h4 (by simp; omega) (by omega)]
    simp
/-- what a machine is about to do is right -/
def MkOk (m : List Int) (hk : Int) (c : Mach) : Prop := c.out = 0 →
  c.x = hk ∧ (c.kind = 1 ↔ 0 < hk) ∧ (1 ≤ c.pc → c.h / 4294967296 ≤ at0 m c.head / 4294967296) ∧
  (c.pc = 2 → (c.kind = 1 → at0 m (1 + hk) = nd c.h) ∧ (c.kind = 2 → c.h = at0 m c.head → c.y = at0 m (1 + nd c.h)))
/-- .. where it is -/
def pos1 (h o : Int) : Nat := if 0 < h ∧ h = o then 1 else 0
structure OutS (m : List Int) (hk : Int) (c : Mach) (Ls : Int → List Int) (m' : List Int) (hk' : Int) (c' : Mach) (Ls' : Int → List Int) : Prop where
  ch : ∀ i, (i = 0 ∨ i = 1) → Ch m' (nd (at0 m' i)) (Ls' i)
  cnt : ∀ o, pos1 hk' o + (Ls' 0).count o + (Ls' 1).count o = pos1 hk o + (Ls 0).count o + (Ls 1).count o
  mok : MkOk m' hk' c'
  oth : ∀ hd d, MOk d → MkOk m hd d → (0 < hd → hd ≠ hk) → (∀ o, 0 < hd → hd = o → (Ls 0).count o = 0 ∧ (Ls 1).count o = 0) → MkOk m' hd d
theorem nd_of (h : Int) : nd h = h % 4294967296 := rfl
theorem front {m : List Int} {x : Int} {L : List Int} (h : Ch m x L) (hx : x ≠ 0) : ∃ r, L = x :: r ∧ 1 ≤ x ∧ x ≤ 8 ∧ Ch m (at0 m (1 + x)) r := by
  cases L with
  | nil => exact (hx h).elim
  | cons a r =>
    obtain ⟨rfl, h2, h3, h4⟩ := h
    exact ⟨r, rfl, h2, h3, h4⟩
theorem one_step {m : List Int} (hm : ∀ v ∈ m, R64 v) (hl : m.length = 10) (hv : ver m < 4294967295) {c : Mach} (hc : MOk c) (ho : c.out = 0) {hk : Int} {Ls : Int → List Int}
    (hch : ∀ i, (i = 0 ∨ i = 1) → Ch m (nd (at0 m i)) (Ls i)) (hcnt : ∀ o, pos1 hk o + (Ls 0).count o + (Ls 1).count o ≤ if 1 ≤ o ∧ o ≤ 8 then 1 else 0) (hmk : MkOk m hk c) (hk0 : 0 ≤ hk) :
    ∃ Ls', OutS m hk c Ls (stepL m c) (if (stepC m c).out = 1 then (if (stepC m c).kind = 1 then 0 else (stepC m c).x) else hk) (stepC m c) Ls' := by
  obtain ⟨g1, g2, g3, g4, g5⟩ := hc.go ho
  have ha : act c := ⟨ho, g3, g4, g5⟩
  obtain ⟨k1, k2, k3, k4⟩ := hmk ho
  have h0 := at0R hm 0
  have h1 := at0R hm 1
  have hhd : 0 ≤ c.head ∧ c.head < m.length := by omega
  have ehd : ldV m c.head = at0 m c.head := ld_at hhd
  have hxx := hcnt hk
  have hx8 : 0 < hk → 1 ≤ hk ∧ hk ≤ 8 ∧ (Ls 0).count hk = 0 ∧ (Ls 1).count hk = 0 := fun h => by
    have : pos1 hk hk = 1 := by simp [pos1, h]
    by_cases hh : 1 ≤ hk ∧ hk ≤ 8
    · rw [if_pos hh] at hxx; omega
    · rw [if_neg hh] at hxx; omega
  unfold stepL stepC
  rw [if_pos ha, if_pos ha]
  by_cases p0 : c.pc = 0
  · rw [if_pos p0, if_pos p0, ehd]
    have hne : ¬ ((if c.kind = 2 ∧ nd (at0 m c.head) = 0 then (2 : Int) else 0) = 1) := by split <;> decide
    rw [if_neg hne]
    refine ⟨Ls, hch, fun o => rfl, fun _ => ⟨k1, k2, fun _ => Int.le_refl _, fun h => by simp at h⟩, fun hd d _ h _ _ => h⟩
  · rw [if_neg p0, if_neg p0]
    by_cases p1 : c.pc = 1
    · rw [if_pos p1, if_pos p1]
      by_cases kd : c.kind = 1
      · rw [if_pos kd, if_pos kd]
        simp only
        rw [if_neg (by decide)]
        have hp := k2.1 kd
        obtain ⟨x1, x2, x3, x4⟩ := hx8 hp
        have ew : IntKind.i64.wrap (c.next + c.x) = 1 + hk := by rw [g1, k1]; exact w_id (by omega)
        rw [ew]
        have es : stL m (1 + hk) (nd c.h) = m.set (1 + hk).toNat (nd c.h) := by
          unfold stL doL
          rw [if_pos (by omega), if_pos rfl]
        rw [es]
        have n0 : ∀ L : List Int, L.count hk = 0 → ∀ a ∈ L, 1 + a ≠ 1 + hk := fun L hL a ha e => by
          have : a = hk := by omega
          subst this
          exact absurd (List.count_pos_iff.2 ha) (by omega)
        have hcell : ∀ i, 0 ≤ i → i ≠ 1 + hk → at0 (m.set (1 + hk).toNat (nd c.h)) i = at0 m i := fun i hi hne => by
          rw [at0_setI _ _ _ _ (by omega) hi, if_neg (by omega)]
        refine ⟨Ls, fun i hi => ?_, fun o => rfl, fun _ => ⟨k1, k2, fun _ => ?_, fun _ => ⟨fun _ => ?_, fun h => ?_⟩⟩, fun hd d hd1 h hne hno => ?_⟩
        · rw [hcell i (by omega) (by omega)]
          refine Ch.set (n0 _ ?_) (hch i hi) (by omega)
          rcases hi with rfl | rfl
          · exact x3
          · exact x4
        · simp only
          rw [hcell _ (by omega) (by omega)]
          exact k3 (by omega)
        · rw [at0_setI _ _ _ _ (by omega) (by omega), if_pos ⟨rfl, by omega⟩]
        · simp only at h; omega
        · intro hdo
          obtain ⟨d1, d2, d3, d4, d5⟩ := hd1.go hdo
          obtain ⟨q1, q2, q3, q4⟩ := h hdo
          refine ⟨q1, q2, fun hp => by rw [hcell _ (by omega) (by omega)]; exact q3 hp, fun hp2 => ⟨fun hk1 => ?_, fun hk2 he => ?_⟩⟩
          · have := q2.1 hk1
            rw [hcell _ (by omega) (by have := hne this; omega)]
            exact (q4 hp2).1 hk1
          · rw [hcell _ (by omega) (by omega)] at he
            have hnz := hd1.pop hdo hk2 (by omega)
            rw [he] at hnz
            obtain ⟨r, e1, e2, e3, _⟩ := front (hch d.head d2) hnz
            rw [(q4 hp2).2 hk2 he, hcell]
            · rw [he]; omega
            · rw [he]
              intro e
              have : nd (at0 m d.head) = hk := by omega
              have hc1 : 0 < (Ls d.head).count hk := by rw [e1, this]; simp
              rcases d2 with d2 | d2 <;> rw [d2] at hc1 <;> omega
      · rw [if_neg kd, if_neg kd]
        simp only
        rw [if_neg (by decide)]
        refine ⟨Ls, hch, fun o => rfl, fun _ => ⟨k1, k2, fun _ => k3 (by omega), fun _ => ⟨fun h => (kd h).elim, fun _ he => ?_⟩⟩, fun hd d _ h _ _ => h⟩
        simp only at he ⊢
        have hnz := hc.pop ho (by omega) (by omega)
        rw [he] at hnz
        obtain ⟨r, e1, e2, e3, e4⟩ := front (hch c.head g2) hnz
        have hb := e4.bound
        have ew : IntKind.i64.wrap (1 + nd (at0 m c.head)) = 1 + nd (at0 m c.head) := w_id (by omega)
        rw [he, g1, ew, ld_at (by omega), w_id (by omega)]
    · rw [if_neg p1, if_neg p1]
      have p2 : c.pc = 2 := by omega
      by_cases hb : doB m 3 c.head c.h = true
      · rw [if_pos hb]
        simp only
        rw [if_pos trivial]
        have hb' := hb
        unfold doB at hb'
        have hb' := of_decide_eq_true hb'
        obtain ⟨b1, b2, _, _, b3⟩ := hb'
        have b3 := b3 rfl
        have hhR := hc.h
        unfold R64 at hhR h0 h1
        have hpk : ∀ nod, pk (vn c.h) nod / 4294967296 = c.h / 4294967296 + 1 := by
          intro nod
          have e1 : vn c.h = c.h / 4294967296 + 1 := by unfold vn; rw [shr32]; exact wrap_u64 ⟨by omega, by omega⟩
          rw [e1]
          unfold pk
          have : c.h / 4294967296 < 4294967295 := by
            unfold ver at hv
            rcases g2 with g | g <;> rw [g] at b3 <;> omega
          omega
        have pk_nd : ∀ v x : Int, 0 ≤ x ∧ x ≤ 8 → nd (pk v x) = x := fun v x h => by unfold Go.Nx.nd pk; omega
        have hnR := R_nd c.h
        generalize hn : (if c.kind = 2 then c.y else c.x) = nod
        have hp := hpk nod
        have hpn := pk_nd (vn c.h) nod
        generalize pk (vn c.h) nod = pv at hp hpn ⊢
        have hm' : doL m 3 c.head c.h pv = m.set c.head.toNat pv := by
          unfold doL
          rw [if_pos ⟨b1, b2⟩, if_neg (show ¬ (3 : Int) = 2 by decide), if_pos (show (3 : Int) = 3 from rfl), if_pos b3]
        rw [hm']
        have hcell : ∀ i, 0 ≤ i → i ≠ c.head → at0 (m.set c.head.toNat pv) i = at0 m i := fun i hi hne => by
          rw [at0_setI _ _ _ _ (by omega) hi, if_neg (by omega)]
        have hcellh : at0 (m.set c.head.toNat pv) c.head = pv := by
          rw [at0_setI _ _ _ _ (by omega) (by omega), if_pos ⟨rfl, by omega⟩]
        have hCh : ∀ {x : Int} {L : List Int}, Ch m x L → Ch (m.set c.head.toNat pv) x L := fun h => Ch.set (fun a ha => by have := h.mem a ha; omega) h (by omega)
        have oth : ∀ hd d, MOk d → MkOk m hd d → MkOk (m.set c.head.toNat pv) hd d := by
          intro hd d hd1 h hdo
          obtain ⟨d1, d2, d3, d4, d5⟩ := hd1.go hdo
          obtain ⟨q1, q2, q3, q4⟩ := h hdo
          refine ⟨q1, q2, fun hp' => ?_, fun hp2 => ⟨fun hk1 => ?_, fun hk2 he => ?_⟩⟩
          · have := q3 hp'
            by_cases e : d.head = c.head
            · rw [e, hcellh, hp]; rw [e, b3] at this; omega
            · rw [hcell _ (by omega) e]; exact this
          · have := q2.1 hk1
            rw [hcell _ (by omega) (by omega)]
            exact (q4 hp2).1 hk1
          · have h3 := q3 (by omega)
            have hnz := hd1.pop hdo hk2 (by omega)
            have hnR2 := R_nd d.h
            by_cases e : d.head = c.head
            · rw [e, hcellh] at he
              rw [e, b3] at h3
              rw [he, hp] at h3
              omega
            · rw [hcell _ (by omega) e] at he
              rw [hcell _ (by omega) (by omega)]
              exact (q4 hp2).2 hk2 he
        by_cases kd : c.kind = 1
        · rw [if_pos kd]
          have hkp := k2.1 kd
          obtain ⟨x1, x2, x3, x4⟩ := hx8 hkp
          rw [if_neg (by omega)] at hn
          have hn : hk = nod := by rw [← k1]; exact hn
          subst hn
          refine ⟨fun i => if i = c.head then hk :: Ls c.head else Ls i, fun i hi => ?_, fun o => ?_, fun h => by simp at h, fun hd d hd1 h _ _ => oth hd d hd1 h⟩
          · by_cases e : i = c.head
            · subst e
              rw [hcellh, hpn (by omega)]
              simp only [if_true]
              refine ⟨rfl, x1, x2, ?_⟩
              rw [hcell _ (by omega) (by omega), (k4 p2).1 kd, ← b3]
              exact hCh (hch c.head g2)
            · rw [hcell _ (by omega) e]
              simp only [e, if_false]
              exact hCh (hch i hi)
          · have hz : pos1 0 o = 0 := by simp [pos1]
            have hpo : pos1 hk o = if hk = o then 1 else 0 := by simp [pos1, hkp]
            rw [hz, hpo]
            have hcons : (hk :: Ls c.head).count o = (Ls c.head).count o + if hk = o then 1 else 0 := by
              rw [List.count_cons]; simp
            rcases g2 with g | g
            · rw [g] at hcons ⊢
              simp only [if_true]
              rw [if_neg (by decide), hcons]; omega
            · rw [g] at hcons ⊢
              simp only [if_true]
              rw [if_neg (by decide), hcons]; omega
        · rw [if_neg kd]
          have kd2 : c.kind = 2 := by omega
          rw [if_pos kd2] at hn ⊢
          have hk00 : hk = 0 := by
            rcases Int.lt_or_le 0 hk with h | h
            · exact absurd (k2.2 h) kd
            · omega
          subst hk00
          have hnz := hc.pop ho kd2 (by omega)
          have hy := (k4 p2).2 kd2 b3.symm
          rw [hn] at hy
          have hf := front (hch c.head g2) (by rw [b3]; exact hnz)
          rw [b3] at hf
          obtain ⟨r, e1, e2, e3, e4⟩ := hf
          rw [← hy] at e4
          have hnb := e4.bound
          refine ⟨fun i => if i = c.head then r else Ls i, fun i hi => ?_, fun o => ?_, fun h => by simp at h, fun hd d hd1 h _ _ => oth hd d hd1 h⟩
          · by_cases e : i = c.head
            · subst e
              rw [hcellh, hpn (by omega)]
              simp only [if_true]
              exact hCh e4
            · rw [hcell _ (by omega) e]
              simp only [e, if_false]
              exact hCh (hch i hi)
          · have hz : pos1 0 o = 0 := by simp [pos1]
            have hpo : pos1 (nd c.h) o = if nd c.h = o then 1 else 0 := by simp [pos1, show 0 < nd c.h by omega]
            rw [hz, hpo]
            have hcons : (Ls c.head).count o = r.count o + if nd c.h = o then 1 else 0 := by
              rw [e1, List.count_cons]; simp
            rcases g2 with g | g
            · rw [g] at hcons ⊢
              simp only [if_true]
              rw [if_neg (show ¬ (1 : Int) = 0 by decide), hcons]; omega
            · rw [g] at hcons ⊢
              simp only [if_true]
              rw [if_neg (show ¬ (0 : Int) = 1 by decide), hcons]; omega
      · rw [if_neg hb]
        simp only
        rw [if_neg (show ¬ (0 : Int) = 1 by decide)]
        have hdo : doL m 3 c.head c.h (pk (vn c.h) (if c.kind = 2 then c.y else c.x)) = m := by
          have he : ¬ at0 m c.head = c.h := fun he => hb (by
            unfold doB
            exact decide_eq_true ⟨hhd.1, hhd.2, by decide, by decide, fun _ => he⟩)
          unfold doL
          rw [if_pos hhd, if_neg (show ¬ (3 : Int) = 2 by decide), if_pos (show (3 : Int) = 3 from rfl), if_neg he]
        rw [hdo]
        exact ⟨Ls, hch, fun o => rfl, fun _ => ⟨k1, k2, fun h => by simp at h, fun h => by simp at h⟩, fun hd d _ h _ _ => h⟩
end Go.Nx
