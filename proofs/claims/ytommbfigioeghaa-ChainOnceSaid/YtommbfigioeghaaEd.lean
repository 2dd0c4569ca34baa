/-
  THE DOCUMENT's STEP.
-/
import Derived.Test.YtommbfigioeghaaEc
set_option linter.unusedVariables false
set_option linter.unusedSimpArgs false
set_option maxRecDepth 20000
set_option maxHeartbeats 4000000
namespace Go.Nx
open Go.RowKit Go.Proofs

noncomputable def lE5 : List (Nat × (List T → Ans)) := (46, c46) :: lE3
noncomputable def iE5 : List (Nat × Pt) := iE3
noncomputable abbrev E5 : Env := En tgl lE5 iE5
theorem env_E5 : EnvOk Try.prog E5 := (env_fn env_E3 (fun _ _ => got46) (fun vs p d sz xs h _ => (nogl46 vs p d sz xs h).elim) pk46)
end Go.Nx
