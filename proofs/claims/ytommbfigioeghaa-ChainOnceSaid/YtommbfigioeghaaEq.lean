/-
  VERSIONS; WHO STOPS: walked.
-/
import Derived.Test.YtommbfigioeghaaEp
set_option linter.unusedVariables false
set_option linter.unusedSimpArgs false
set_option maxRecDepth 20000
set_option maxHeartbeats 4000000
namespace Go.Nx
open Go.RowKit Go.Proofs

def pt15 : Pt := fun base args own R => ∃ w b, args = [.ptr 1001 0, .t (.int .u8 b)] ∧ own = ownW w ∧ R8 b ∧ WOk w ∧ R (.t (.tup [])) (ownW (stepW w b))
theorem pt15_ok {base : Nat} {args : List V} {own : Own} {R : V → Own → Prop} (h : pt15 base args own R) : FnV Try.prog tgl 15 args own R := by
  obtain ⟨w, b, rfl, rfl, hb, hw, hR⟩ := h
  exact inl_ok env_EB Try.func15 low15 (inl15 (base := base) hb hw hR)
theorem env_pt {P : Program} {gl : Nat → Option (List T)} {l : List (Nat × (List T → Ans))} {il : List (Nat × Pt)} {n : Nat} {g : Pt} (h : EnvOk P (En gl l il)) (hg : ∀ base args own R, g base args own R → FnV P gl n args own R) : EnvOk P (En gl l ((n, g) :: il)) := by
  refine ⟨h.fn, h.gl, h.pk, fun f base args own R hi hR => ?_⟩
  have hR' : ptL ((n, g) :: il) f base args own R := hR
  have hi' : isL ((n, g) :: il) f = true := hi
  simp only [ptL] at hR'
  simp only [isL] at hi'
  cases e : Nat.beq n f with
  | true =>
    rw [e] at hR'
    rw [← Nat.eq_of_beq_eq_true e]
    exact hg base args own R hR'
  | false =>
    rw [e] at hR' hi'
    exact h.pt f base args own R hi' hR'
noncomputable def iEW : List (Nat × Pt) := (15, pt15) :: (14, pt14) :: iEB
noncomputable abbrev EW : Env := En tgl lEB iEW
theorem env_EW : EnvOk Try.prog EW := env_pt (env_pt env_EB fun _ _ _ _ => pt14_ok) fun _ _ _ _ => pt15_ok
def wN (l : List Int) : Nat → Wd
  | 0 => wd0
  | k + 1 => stepW (wN l k) (at0 l k)
theorem inv0 : Inv wd0 0 := by
  refine ⟨?_, rfl, rfl, rfl, ?_, ?_, by decide, by decide⟩
  · intro v hv
    simp [wd0] at hv
    unfold R64; omega
  · intro c hc
    simp [wd0] at hc
    subst hc
    exact ⟨by unfold R64; simp, fun h => by simp at h, by simp, fun h => by simp at h, fun h => by simp at h⟩
  · intro x hx
    simp [wd0] at hx
    omega
theorem wN_inv {l : List Int} (hl : ∀ n ∈ l, R8 n) {k : Nat} (hk : k ≤ 400) (hkl : k ≤ l.length) : Inv (wN l k) k := by
  induction k with
  | zero => exact inv0
  | succ k ih => exact inv_step (hl _ (at0_mem (by simp; omega))) (ih (by omega) (by omega)) (by omega)
theorem Inv.wok {w : Wd} {n : Nat} (h : Inv w n) : WOk w := ⟨⟨h.m, by unfold Sz maxBytes; rw [us_len, h.ml]; decide⟩, h.who, h.has⟩
def Szb (xs : List T) : Prop := xs.length ≤ maxBytes
end Go.Nx
