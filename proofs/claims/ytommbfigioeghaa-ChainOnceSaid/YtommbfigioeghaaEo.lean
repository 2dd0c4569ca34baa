/-
  THE WORLD OF FIVE MACHINES: ITS START.
-/
import Derived.Test.YtommbfigioeghaaEn
import Derived.Test.YtommbfigioeghaaYd
set_option linter.unusedVariables false
set_option linter.unusedSimpArgs false
set_option maxRecDepth 100000
set_option maxHeartbeats 4000000
namespace Go.Nx
open Go.RowKit Go.Proofs

def wd0 : Wd := ⟨[1, 0, 2, 3, 4, 5, 6, 7, 8, 0], List.replicate 5 ⟨0, 0, 0, 0, 0, 0, 0, 1⟩, [0, 0, 0, 0, 0], 0⟩
def startV : V := .agg [.t (.list 1 (us wd0.m)), .sl 1000000000000000000000000000013 0 none, .sl 1000000000000000000000000000012 0 none, .t (.int .i64 wd0.swap)]
def startO : Own := [(1000000000000000000000000000012, .lst 1 (is wd0.has) 0), (1000000000000000000000000000013, .lst 8 (ms wd0.who) 0)]
noncomputable abbrev EC : EnvE := envE tgl (fun _ _ => .no) tabC 1000 20
theorem start_run : inE EC 1000 m14 0 [] [] = some (startV, startO) := by kernel_rfl
def pt14 : Pt := fun base args own R => args = [] ∧ own = [] ∧ R startV startO
theorem pt14_ok {base : Nat} {args : List V} {own : Own} {R : V → Own → Prop} (h : pt14 base args own R) : FnV Try.prog tgl 14 args own R := by
  obtain ⟨rfl, rfl, h⟩ := h
  have := inl_ok (P := Try.prog) (envE_ok (gl := tgl) (ext := fun _ _ => .no) (tab := tabC) (fuel := 1000) extNo tabC_ok 20) Try.func14 low14 (inE_ok start_run h)
  exact this
end Go.Nx
