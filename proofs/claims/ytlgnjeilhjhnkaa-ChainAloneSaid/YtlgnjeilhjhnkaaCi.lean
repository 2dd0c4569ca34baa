/-
  THE CHAPTER's EXAMPLES.
-/
import Derived.Test.YtlgnjeilhjhnkaaCh
import Derived.Test.YtlgnjeilhjhnkaaYd
set_option linter.unusedVariables false
set_option maxRecDepth 100000
namespace Go.Nx
open Go.RowKit Go.Proofs

noncomputable def tabC : List (Nat × Bool × MFn) := [(3, false, m3), (4, false, m4), (5, false, m5), (6, false, m6), (7, false, m7), (8, false, m8), (9, false, m9), (10, false, m10), (11, false, m11), (12, false, m12), (13, false, m13), (14, false, m14), (15, false, m15), (16, false, m16), (17, false, m17), (18, false, m18), (19, false, m19), (20, false, m20), (21, false, m21), (22, false, m22), (23, false, m23), (24, false, m24), (25, true, m25), (26, true, m26), (27, false, m27), (28, false, m28), (29, true, m29), (30, true, m30), (31, true, m31), (32, true, m32), (33, false, m33), (34, false, m34), (35, false, m35), (36, false, m36), (37, false, m37), (38, false, m38), (39, false, m39), (40, false, m40), (41, false, m41), (42, false, m42), (43, false, m43), (44, false, m44), (45, true, m45)]
theorem tabC_ok : ∀ p ∈ tabC, ∃ fn, Try.prog.funcs[p.1]? = some fn ∧ lowFn Try.prog fn = some p.2.2 := (tab_cons ⟨_, Try.func3, low3⟩ (tab_cons ⟨_, Try.func4, low4⟩ (tab_cons ⟨_, Try.func5, low5⟩ (tab_cons ⟨_, Try.func6, low6⟩ (tab_cons ⟨_, Try.func7, low7⟩ (tab_cons ⟨_, Try.func8, low8⟩ (tab_cons ⟨_, Try.func9, low9⟩ (tab_cons ⟨_, Try.func10, low10⟩ (tab_cons ⟨_, Try.func11, low11⟩ (tab_cons ⟨_, Try.func12, low12⟩ (tab_cons ⟨_, Try.func13, low13⟩ (tab_cons ⟨_, Try.func14, low14⟩ (tab_cons ⟨_, Try.func15, low15⟩ (tab_cons ⟨_, Try.func16, low16⟩ (tab_cons ⟨_, Try.func17, low17⟩ (tab_cons ⟨_, Try.func18, low18⟩ (tab_cons ⟨_, Try.func19, low19⟩ (tab_cons ⟨_, Try.func20, low20⟩ (tab_cons ⟨_, Try.func21, low21⟩ (tab_cons ⟨_, Try.func22, low22⟩ (tab_cons ⟨_, Try.func23, low23⟩ (tab_cons ⟨_, Try.func24, low24⟩ (tab_cons ⟨_, Try.func25, low25⟩ (tab_cons ⟨_, Try.func26, low26⟩ (tab_cons ⟨_, Try.func27, low27⟩ (tab_cons ⟨_, Try.func28, low28⟩ (tab_cons ⟨_, Try.func29, low29⟩ (tab_cons ⟨_, Try.func30, low30⟩ (tab_cons ⟨_, Try.func31, low31⟩ (tab_cons ⟨_, Try.func32, low32⟩ (tab_cons ⟨_, Try.func33, low33⟩ (tab_cons ⟨_, Try.func34, low34⟩ (tab_cons ⟨_, Try.func35, low35⟩ (tab_cons ⟨_, Try.func36, low36⟩ (tab_cons ⟨_, Try.func37, low37⟩ (tab_cons ⟨_, Try.func38, low38⟩ (tab_cons ⟨_, Try.func39, low39⟩ (tab_cons ⟨_, Try.func40, low40⟩ (tab_cons ⟨_, Try.func41, low41⟩ (tab_cons ⟨_, Try.func42, low42⟩ (tab_cons ⟨_, Try.func43, low43⟩ (tab_cons ⟨_, Try.func44, low44⟩ (tab_cons ⟨_, Try.func45, low45⟩ tab_nil)))))))))))))))))))))))))))))))))))))))))))
theorem ok9 : FnOk Try.prog tgl 9 [] (.bool true) := ev_ok (ext := (fun _ _ => none)) (tab := tabC) (fuel := 1000) (d := 20) (fun _ _ _ h => by cases h) tabC_ok (by kernel_rfl)
open Classical in
noncomputable def c9 : List T → Ans
  | [] => .yes (.bool true)
  | _ => .no
theorem got9 {vs : List T} {x : T} (h : Got (c9 vs) x) : FnOk Try.prog tgl 9 vs x := by
  unfold c9 at h
  split at h
  · rw [got_yes h]; exact ok9
  · exact (got_no h).elim
theorem nogl9 (vs : List T) (p : Prop) (sz : Nat) (xs : List T) (h : c9 vs = .gl p sz xs) : False := by
  unfold c9 at h
  split at h <;> cases h
end Go.Nx
