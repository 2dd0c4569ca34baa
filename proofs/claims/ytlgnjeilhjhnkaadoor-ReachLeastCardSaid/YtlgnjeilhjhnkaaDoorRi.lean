/-
  WHAT CAN BE REACHED: the examples.
-/
import Derived.Test.YtlgnjeilhjhnkaaDoorRh
import Derived.Test.YtlgnjeilhjhnkaaDoorYe
set_option linter.unusedVariables false
set_option linter.unusedSimpArgs false
set_option maxRecDepth 20000
set_option maxHeartbeats 4000000
namespace Go.Nx
open Go.RowKit Go.Proofs

def extR (n : Nat) (ts : List T) : Ans := match Nat.beq n 39 with
  | true => match ts with
    | [.int .u64 s] => match decide (0 ≤ s ∧ s < 18446744073709551616) with
      | true => .gl True 1 (is (lsL (bv s)))
      | false => .no
    | _ => .no
  | false => .no
theorem extR_ok : ExtOk Tryd.prog tgl extR := by
  refine ⟨fun f vs x h => ?_, fun f vs p d sz xs h hp => ?_, fun f vs p d x h hp => ?_⟩
  · unfold extR at h
    exfalso
    split at h
    · split at h
      · split at h <;> (rcases h with h | ⟨p, d, h, _⟩ <;> cases h)
      · rcases h with h | ⟨p, d, h, _⟩ <;> cases h
    · rcases h with h | ⟨p, d, h, _⟩ <;> cases h
  · unfold extR at h
    split at h
    · rename_i hf
      obtain rfl := Nat.eq_of_beq_eq_true hf
      split at h
      · split at h
        · rename_i hd
          cases h
          have hd' := of_decide_eq_true hd
          exact gl39_ok _ hd'
        · cases h
      · cases h
    · cases h
  · unfold extR at h
    split at h
    · split at h
      · split at h <;> cases h
      · cases h
    · cases h
noncomputable def tabR : List (Nat × Nat × MFn) := [(3, 0, m3), (4, 0, m4), (5, 0, m5), (6, 0, m6), (7, 0, m7), (8, 0, m8), (9, 0, m9), (10, 0, m10), (11, 0, m11), (12, 0, m12), (13, 0, m13), (14, 0, m14), (15, 0, m15), (16, 0, m16), (17, 0, m17), (18, 0, m18), (19, 0, m19), (20, 0, m20), (21, 0, m21), (22, 0, m22), (23, 0, m23), (24, 0, m24), (25, 0, m25), (26, 0, m26), (27, 0, m27), (28, 0, m28), (29, 0, m29), (30, 0, m30), (31, 0, m31), (32, 0, m32), (33, 0, m33), (34, 0, m34), (35, 0, m35), (36, 0, m36), (37, 1, m37), (38, 1, m38), (40, 0, m40), (41, 0, m41), (42, 0, m42), (43, 0, m43), (44, 0, m44), (45, 0, m45), (46, 0, m46), (48, 0, m48)]
theorem tabR_ok : ∀ p ∈ tabR, ∃ fn, Tryd.prog.funcs[p.1]? = some fn ∧ lowFn Tryd.prog fn = some p.2.2 := (tab_cons ⟨_, Tryd.func3, low3⟩ (tab_cons ⟨_, Tryd.func4, low4⟩ (tab_cons ⟨_, Tryd.func5, low5⟩ (tab_cons ⟨_, Tryd.func6, low6⟩ (tab_cons ⟨_, Tryd.func7, low7⟩ (tab_cons ⟨_, Tryd.func8, low8⟩ (tab_cons ⟨_, Tryd.func9, low9⟩ (tab_cons ⟨_, Tryd.func10, low10⟩ (tab_cons ⟨_, Tryd.func11, low11⟩ (tab_cons ⟨_, Tryd.func12, low12⟩ (tab_cons ⟨_, Tryd.func13, low13⟩ (tab_cons ⟨_, Tryd.func14, low14⟩ (tab_cons ⟨_, Tryd.func15, low15⟩ (tab_cons ⟨_, Tryd.func16, low16⟩ (tab_cons ⟨_, Tryd.func17, low17⟩ (tab_cons ⟨_, Tryd.func18, low18⟩ (tab_cons ⟨_, Tryd.func19, low19⟩ (tab_cons ⟨_, Tryd.func20, low20⟩ (tab_cons ⟨_, Tryd.func21, low21⟩ (tab_cons ⟨_, Tryd.func22, low22⟩ (tab_cons ⟨_, Tryd.func23, low23⟩ (tab_cons ⟨_, Tryd.func24, low24⟩ (tab_cons ⟨_, Tryd.func25, low25⟩ (tab_cons ⟨_, Tryd.func26, low26⟩ (tab_cons ⟨_, Tryd.func27, low27⟩ (tab_cons ⟨_, Tryd.func28, low28⟩ (tab_cons ⟨_, Tryd.func29, low29⟩ (tab_cons ⟨_, Tryd.func30, low30⟩ (tab_cons ⟨_, Tryd.func31, low31⟩ (tab_cons ⟨_, Tryd.func32, low32⟩ (tab_cons ⟨_, Tryd.func33, low33⟩ (tab_cons ⟨_, Tryd.func34, low34⟩ (tab_cons ⟨_, Tryd.func35, low35⟩ (tab_cons ⟨_, Tryd.func36, low36⟩ (tab_cons ⟨_, Tryd.func37, low37⟩ (tab_cons ⟨_, Tryd.func38, low38⟩ (tab_cons ⟨_, Tryd.func40, low40⟩ (tab_cons ⟨_, Tryd.func41, low41⟩ (tab_cons ⟨_, Tryd.func42, low42⟩ (tab_cons ⟨_, Tryd.func43, low43⟩ (tab_cons ⟨_, Tryd.func44, low44⟩ (tab_cons ⟨_, Tryd.func45, low45⟩ (tab_cons ⟨_, Tryd.func46, low46⟩ (tab_cons ⟨_, Tryd.func48, low48⟩ tab_nil))))))))))))))))))))))))))))))))))))))))))))
theorem ok9 : FnOk Tryd.prog tgl 9 [] (.bool true) := ev_ok (ext := extR) (tab := tabR) (fuel := 2000) (d := 40) extR_ok tabR_ok (by kernel_rfl)
open Classical in
noncomputable def c9 : List T → Ans
  | [] => .yes (.bool true)
  | _ => .no
theorem got9 {vs : List T} {x : T} (h : Got (c9 vs) x) : FnOk Tryd.prog tgl 9 vs x := by
  unfold c9 at h
  split at h
  · rw [got_yes h]; exact ok9
  · exact (got_no h).elim
theorem nogl9 (vs : List T) (p : Prop) (d : Decidable p) (sz : Nat) (xs : List T) (h : c9 vs = @Ans.gl p d sz xs) : False := by
  unfold c9 at h
  split at h <;> cases h
theorem pk9 (vs : List T) (p : Prop) (d : Decidable p) (x : T) (h : c9 vs = @Ans.pk p d x) (hp : p) : FnOk Tryd.prog tgl 9 vs x := by
  unfold c9 at h
  split at h <;> cases h
end Go.Nx
