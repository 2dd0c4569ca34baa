/-
  SHAPES TAKEN APART.
-/
import Derived.Test.YtpmpkcjcjccboaaDoorYd
set_option linter.unusedVariables false
namespace Go.Nx
open Go.RowKit

theorem fits_fs1 {e r : Sh} {xs : List T} (h : Fits (.fs 1 e r) xs) : ∃ x xs', xs = x :: xs' ∧ Fits e [x] ∧ Fits r xs' := by
  obtain ⟨h1, h2, h3⟩ := h
  cases xs with
  | nil => simp at h1
  | cons x xs => exact ⟨x, xs, rfl, by simpa using h2, by simpa using h3⟩
theorem fits_fs {n : Nat} {e r : Sh} {xs : List T} (h : Fits (.fs n e r) xs) : ∃ a b, xs = a ++ b ∧ a.length = n ∧ Fits e a ∧ Fits r b := by
  obtain ⟨h1, h2, h3⟩ := h
  exact ⟨xs.take n, xs.drop n, (List.take_append_drop n xs).symm, by simp; omega, h2, h3⟩
theorem fits_nums {k : IntKind} {ys : List T} (h : ∀ y ∈ ys, Flat 1 y ∧ Fits (.int k) y.cells ∧ y = mkEl y.cells) : ∃ l : List Int, ys = l.map (T.int k) ∧ ∀ n ∈ l, (Lit.int k n).wf = true := by
  induction ys with
  | nil => exact ⟨[], rfl, by simp⟩
  | cons y ys ih =>
    obtain ⟨l, h1, h2⟩ := ih fun z hz => h z (by simp [hz])
    obtain ⟨_, ⟨n, hn, hw⟩, he⟩ := h y (by simp)
    rw [hn] at he
    exact ⟨n :: l, by rw [h1, he]; rfl, fun m hm => by
      rcases List.mem_cons.1 hm with rfl | hm
      · exact hw
      · exact h2 m hm⟩
theorem fits_us {ys : List T} (h : ∀ y ∈ ys, Flat 1 y ∧ Fits (.int .u64) y.cells ∧ y = mkEl y.cells) : ∃ l : List Int, ys = us l ∧ ∀ n ∈ l, R64 n := by
  obtain ⟨l, h1, h2⟩ := fits_nums h
  exact ⟨l, h1, fun n hn => wf_u64 (h2 n hn)⟩
theorem fits_is {ys : List T} (h : ∀ y ∈ ys, Flat 1 y ∧ Fits (.int .i64) y.cells ∧ y = mkEl y.cells) : ∃ l : List Int, ys = is l ∧ ∀ n ∈ l, I64 n := by
  obtain ⟨l, h1, h2⟩ := fits_nums h
  exact ⟨l, h1, fun n hn => wf_i64 (h2 n hn)⟩
theorem fits_bs {ys : List T} (h : ∀ y ∈ ys, Flat 1 y ∧ Fits (.int .u8) y.cells ∧ y = mkEl y.cells) : ∃ l : List Int, ys = bs l ∧ ∀ n ∈ l, R8 n := by
  obtain ⟨l, h1, h2⟩ := fits_nums h
  exact ⟨l, h1, fun n hn => wf_u8 (h2 n hn)⟩
/-- no package variables are laid -/
theorem glOk_none {S : Cells} {W : World} : GlOk (fun _ => none) S W := fun g cs h => by cases h
end Go.Nx
