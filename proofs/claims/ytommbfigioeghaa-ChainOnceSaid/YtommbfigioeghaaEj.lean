/-
  CHAIN TELLS.
-/
import Derived.Test.YtommbfigioeghaaEi
set_option linter.unusedVariables false
set_option linter.unusedSimpArgs false
set_option maxRecDepth 20000
set_option maxHeartbeats 4000000
namespace Go.Nx
open Go.RowKit Go.Proofs

theorem eqL_self (a : List Int) : eqL a a = true := by simp [eqL]
theorem wrapi_I (n : Int) : I64 (IntKind.i64.wrap n) := by
  rw [IntKind.wrap_i64]; unfold I64; omega
theorem nd_I (h : Int) : I64 (nd h) := by have := R_nd h; unfold I64; omega
theorem stepL_inv {l : List Int} {c : Mach} (hl : ∀ n ∈ l, R64 n) (hs : Sz (us l)) (hc : R64 c.h) : IsU (us (stepL l c)) ∧ Sz (us (stepL l c)) := ⟨isU_us (mach_R hl hc).1, sz_of hs (stepL_len l c)⟩
theorem layL_inv {m : List Int} {hd nx : Int} {r : List Int} (hm : ∀ n ∈ m, R64 n) (hs : Sz (us m)) : IsU (us (layL m hd nx r)) ∧ Sz (us (layL m hd nx r)) := by
  have h : (∀ n ∈ layN m nx r r.length, R64 n) ∧ (layN m nx r r.length).length = m.length := by
    generalize r.length = k
    induction k with
    | zero => exact ⟨hm, rfl⟩
    | succ k ih => exact ⟨stL_R ih.1 _ (wrapu_R _), by rw [layN, stL_len]; exact ih.2⟩
  refine ⟨isU_us (stL_R h.1 _ (R_pk _ _)), sz_of hs ?_⟩
  rw [layL, stL_len]; exact h.2
theorem goL_inv {l : List Int} {nx mo : Int} : ∀ (f : Nat) (out : List Int) (x : Int), (∀ n ∈ out, I64 n) → out.length ≤ 1000 → I64 x → (∀ n ∈ goL l nx mo f out x, I64 n) ∧ (goL l nx mo f out x).length ≤ 1000
  | 0, out, x, h1, h2, _ => ⟨h1, h2⟩
  | f + 1, out, x, h1, h2, h3 => by
    rw [goL]
    split
    · refine goL_inv f _ _ (fun n hn => ?_) (by simp; omega) (wrapi_I _)
      rcases List.mem_append.1 hn with h | h
      · exact h1 n h
      · simp at h; subst h; exact h3
    · exact ⟨h1, h2⟩
theorem listL_inv (l : List Int) (hd nx mo : Int) : IsI (is (listL l hd nx mo)) ∧ Sz (is (listL l hd nx mo)) := by
  obtain ⟨h1, h2⟩ := goL_inv (l := l) (nx := nx) (mo := mo) 1001 [] (nd (ldV l hd)) (fun n h => by cases h) (by simp) (nd_I _)
  refine ⟨isI_is h1, ?_⟩
  unfold Sz maxBytes
  rw [is_len]
  unfold listL; omega
noncomputable def lEA : List (Nat × (List T → Ans)) := (40, c40) :: lE9
noncomputable def iEA : List (Nat × Pt) := iE9
noncomputable abbrev EA : Env := En tgl lEA iEA
theorem env_EA : EnvOk Try.prog EA := (env_fn env_E9 (fun _ _ => got40) (fun vs p d sz xs h _ => (nogl40 vs p d sz xs h).elim) pk40)
noncomputable def lEB : List (Nat × (List T → Ans)) := (13, c13) :: lEA
noncomputable def iEB : List (Nat × Pt) := iEA
noncomputable abbrev EB : Env := En tgl lEB iEB
theorem env_EB : EnvOk Try.prog EB := (env_fn env_EA (fun _ _ => got13) (fun vs p d sz xs h _ => (nogl13 vs p d sz xs h).elim) pk13)
end Go.Nx
