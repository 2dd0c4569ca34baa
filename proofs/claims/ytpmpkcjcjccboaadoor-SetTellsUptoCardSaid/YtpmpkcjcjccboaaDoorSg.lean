/-
  SETS: THE EXAMPLES.
-/
import Derived.Test.YtpmpkcjcjccboaaDoorSe
import Derived.Test.YtpmpkcjcjccboaaDoorXz
set_option linter.unusedVariables false
set_option linter.unusedSimpArgs false
set_option maxRecDepth 100000
set_option maxHeartbeats 4000000
namespace Go.Nx
open Go.RowKit Go.Proofs

def inU (n : Int) : Bool := decide (0 ≤ n ∧ n < 18446744073709551616)
def extS (f : Nat) (ts : List T) : Ans := match Nat.beq f 29 with
  | true => match ts with
    | [.int .u64 s] => match inU s with
      | true => .yes (.str (txt (bv s)))
      | false => .no
    | _ => .no
  | false => match Nat.beq f 32 with
    | true => match ts with
      | [.str t] => match decide (t.size ≤ 18) with
        | true => .yes (atoiT t)
        | false => .no
      | _ => .no
    | false => match Nat.beq f 50 with
      | true => match ts with
        | [.str t, .str ⟨⟨[c]⟩⟩] => .yes (.int .i64 (Lib.countByte t.data.toList c))
        | _ => .no
      | false => match Nat.beq f 51 with
        | true => match ts with
          | [.str t, .str ⟨⟨[c]⟩⟩] => .yes (.int .i64 (Lib.indexByte t.data.toList c))
          | _ => .no
        | false => match Nat.beq f 23 with
          | true => match ts with
            | [.int .u64 s] => Ans.gl (0 ≤ s ∧ s < 18446744073709551616) 1 (is (lsL (bv s)))
            | _ => .no
          | false => .no
theorem extS_ok : ExtOk Tryd.prog tgl extS := by
  refine ⟨fun f vs x h0 => ?_, fun f vs p d sz xs h hp => ?_, fun f vs p d x h hp => ?_⟩
  · have h : extS f vs = .yes x := by
      rcases h0 with h | ⟨p, d, h, _⟩
      · exact h
      · exfalso
        unfold extS at h
        repeat' (split at h)
        all_goals cases h
    clear h0
    unfold extS at h
    split at h
    · rename_i hf
      obtain rfl := Nat.eq_of_beq_eq_true hf
      split at h
      · split at h
        · rename_i hd
          cases h
          exact okTxt _ (show R64 _ from of_decide_eq_true (p := 0 ≤ _ ∧ _) hd)
        · cases h
      · cases h
    · split at h
      · rename_i hf
        obtain rfl := Nat.eq_of_beq_eq_true hf
        split at h
        · split at h
          · rename_i hd
            cases h
            exact okA18 _ (of_decide_eq_true hd)
          · cases h
        · cases h
      · split at h
        · rename_i hf
          obtain rfl := Nat.eq_of_beq_eq_true hf
          split at h
          · cases h; exact okCnt _ _
          · cases h
        · split at h
          · rename_i hf
            obtain rfl := Nat.eq_of_beq_eq_true hf
            split at h
            · cases h; exact okIdx _ _
            · cases h
          · split at h
            · split at h <;> cases h
            · cases h
  · unfold extS at h
    repeat' (split at h)
    all_goals first
      | (cases h; done)
      | (obtain rfl : f = 23 := Nat.eq_of_beq_eq_true (by assumption)
         cases h
         exact gl23_ok _ hp)
  · exfalso
    unfold extS at h
    repeat' (split at h)
    all_goals cases h
noncomputable def tabS : List (Nat × Nat × MFn) := [(3, 0, m3), (4, 0, m4), (5, 0, m5), (6, 0, m6), (7, 0, m7), (8, 0, m8), (9, 0, m9), (10, 0, m10), (11, 0, m11), (12, 0, m12), (13, 0, m13), (14, 0, m14), (15, 0, m15), (16, 0, m16), (17, 0, m17), (18, 0, m18), (19, 0, m19), (20, 0, m20), (21, 0, m21), (22, 0, m22), (24, 0, m24), (25, 0, m25), (26, 0, m26), (27, 0, m27), (28, 0, m28), (30, 0, m30), (31, 0, m31), (33, 0, m33), (34, 0, m34), (35, 0, m35), (36, 0, m36), (37, 0, m37), (38, 0, m38), (39, 0, m39), (40, 0, m40), (41, 0, m41), (42, 0, m42), (43, 0, m43), (44, 0, m44), (45, 0, m45), (46, 0, m46), (47, 0, m47), (48, 0, m48), (49, 0, m49), (52, 0, m52), (53, 0, m53), (54, 0, m54), (55, 0, m55), (56, 0, m56), (57, 0, m57), (59, 0, m59), (60, 0, m60), (61, 0, m61), (63, 0, m63), (64, 0, m64), (65, 0, m65), (66, 0, m66), (67, 0, m67), (68, 0, m68), (69, 0, m69), (70, 0, m70), (73, 0, m73), (74, 0, m74), (76, 0, m76), (77, 0, m77), (78, 0, m78), (79, 0, m79), (80, 0, m80), (81, 0, m81), (82, 0, m82), (83, 0, m83), (84, 0, m84), (86, 0, m86), (87, 0, m87), (117, 0, m117)]
theorem tabS_ok : ∀ p ∈ tabS, ∃ fn, Tryd.prog.funcs[p.1]? = some fn ∧ lowFn Tryd.prog fn = some p.2.2 := (tab_cons ⟨_, Tryd.func3, low3⟩ (tab_cons ⟨_, Tryd.func4, low4⟩ (tab_cons ⟨_, Tryd.func5, low5⟩ (tab_cons ⟨_, Tryd.func6, low6⟩ (tab_cons ⟨_, Tryd.func7, low7⟩ (tab_cons ⟨_, Tryd.func8, low8⟩ (tab_cons ⟨_, Tryd.func9, low9⟩ (tab_cons ⟨_, Tryd.func10, low10⟩ (tab_cons ⟨_, Tryd.func11, low11⟩ (tab_cons ⟨_, Tryd.func12, low12⟩ (tab_cons ⟨_, Tryd.func13, low13⟩ (tab_cons ⟨_, Tryd.func14, low14⟩ (tab_cons ⟨_, Tryd.func15, low15⟩ (tab_cons ⟨_, Tryd.func16, low16⟩ (tab_cons ⟨_, Tryd.func17, low17⟩ (tab_cons ⟨_, Tryd.func18, low18⟩ (tab_cons ⟨_, Tryd.func19, low19⟩ (tab_cons ⟨_, Tryd.func20, low20⟩ (tab_cons ⟨_, Tryd.func21, low21⟩ (tab_cons ⟨_, Tryd.func22, low22⟩ (tab_cons ⟨_, Tryd.func24, low24⟩ (tab_cons ⟨_, Tryd.func25, low25⟩ (tab_cons ⟨_, Tryd.func26, low26⟩ (tab_cons ⟨_, Tryd.func27, low27⟩ (tab_cons ⟨_, Tryd.func28, low28⟩ (tab_cons ⟨_, Tryd.func30, low30⟩ (tab_cons ⟨_, Tryd.func31, low31⟩ (tab_cons ⟨_, Tryd.func33, low33⟩ (tab_cons ⟨_, Tryd.func34, low34⟩ (tab_cons ⟨_, Tryd.func35, low35⟩ (tab_cons ⟨_, Tryd.func36, low36⟩ (tab_cons ⟨_, Tryd.func37, low37⟩ (tab_cons ⟨_, Tryd.func38, low38⟩ (tab_cons ⟨_, Tryd.func39, low39⟩ (tab_cons ⟨_, Tryd.func40, low40⟩ (tab_cons ⟨_, Tryd.func41, low41⟩ (tab_cons ⟨_, Tryd.func42, low42⟩ (tab_cons ⟨_, Tryd.func43, low43⟩ (tab_cons ⟨_, Tryd.func44, low44⟩ (tab_cons ⟨_, Tryd.func45, low45⟩ (tab_cons ⟨_, Tryd.func46, low46⟩ (tab_cons ⟨_, Tryd.func47, low47⟩ (tab_cons ⟨_, Tryd.func48, low48⟩ (tab_cons ⟨_, Tryd.func49, low49⟩ (tab_cons ⟨_, Tryd.func52, low52⟩ (tab_cons ⟨_, Tryd.func53, low53⟩ (tab_cons ⟨_, Tryd.func54, low54⟩ (tab_cons ⟨_, Tryd.func55, low55⟩ (tab_cons ⟨_, Tryd.func56, low56⟩ (tab_cons ⟨_, Tryd.func57, low57⟩ (tab_cons ⟨_, Tryd.func59, low59⟩ (tab_cons ⟨_, Tryd.func60, low60⟩ (tab_cons ⟨_, Tryd.func61, low61⟩ (tab_cons ⟨_, Tryd.func63, low63⟩ (tab_cons ⟨_, Tryd.func64, low64⟩ (tab_cons ⟨_, Tryd.func65, low65⟩ (tab_cons ⟨_, Tryd.func66, low66⟩ (tab_cons ⟨_, Tryd.func67, low67⟩ (tab_cons ⟨_, Tryd.func68, low68⟩ (tab_cons ⟨_, Tryd.func69, low69⟩ (tab_cons ⟨_, Tryd.func70, low70⟩ (tab_cons ⟨_, Tryd.func73, low73⟩ (tab_cons ⟨_, Tryd.func74, low74⟩ (tab_cons ⟨_, Tryd.func76, low76⟩ (tab_cons ⟨_, Tryd.func77, low77⟩ (tab_cons ⟨_, Tryd.func78, low78⟩ (tab_cons ⟨_, Tryd.func79, low79⟩ (tab_cons ⟨_, Tryd.func80, low80⟩ (tab_cons ⟨_, Tryd.func81, low81⟩ (tab_cons ⟨_, Tryd.func82, low82⟩ (tab_cons ⟨_, Tryd.func83, low83⟩ (tab_cons ⟨_, Tryd.func84, low84⟩ (tab_cons ⟨_, Tryd.func86, low86⟩ (tab_cons ⟨_, Tryd.func87, low87⟩ (tab_cons ⟨_, Tryd.func117, low117⟩ tab_nil)))))))))))))))))))))))))))))))))))))))))))))))))))))))))))))))))))))))))))
theorem ok9 : FnOk Tryd.prog tgl 9 [] (.bool true) := ev_ok (ext := extS) (tab := tabS) (fuel := 3000) (d := 40) extS_ok tabS_ok (by kernel_rfl)
open Classical in
noncomputable def c9 : List T → Ans
  | [] => .yes (.bool true)
  | _ => .no
theorem got9 {vs : List T} {x : T} (h : Got (c9 vs) x) : FnOk Tryd.prog tgl 9 vs x := by
  unfold c9 at h
  split at h
  · rw [got_yes h]; exact ok9
  · exact (got_no h).elim
theorem nogl9 (vs : List T) (p : Prop) (d : Decidable p) (sz : Nat) (xs : List T) (h : c9 vs = @Ans.gl p d sz xs) : False := by
  unfold c9 at h
  split at h <;> cases h
theorem pk9 (vs : List T) (p : Prop) (d : Decidable p) (x : T) (h : c9 vs = @Ans.pk p d x) (hp : p) : FnOk Tryd.prog tgl 9 vs x := by
  unfold c9 at h
  split at h <;> cases h
end Go.Nx
