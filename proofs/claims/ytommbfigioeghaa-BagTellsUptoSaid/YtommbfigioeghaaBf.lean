/-
  BAGS: THE EXAMPLES.
-/
import Derived.Test.YtommbfigioeghaaBe
import Derived.Test.YtommbfigioeghaaXz
set_option linter.unusedVariables false
set_option linter.unusedSimpArgs false
set_option maxRecDepth 100000
set_option maxHeartbeats 4000000
namespace Go.Nx
open Go.RowKit Go.Proofs

def isIB : List T → Bool
  | [] => true
  | x :: r => match x with
    | .int .i64 n => match decide (-9223372036854775808 ≤ n ∧ n < 9223372036854775808) with
      | true => isIB r
      | false => false
    | _ => false
theorem isIB_spec : ∀ {xs : List T}, isIB xs = true → IsI xs
  | [], _ => ⟨[], rfl, by simp⟩
  | x :: r, h => by
    unfold isIB at h
    split at h
    · rename_i n
      split at h
      · rename_i e
        have e := of_decide_eq_true e
        obtain ⟨l, rfl, hl⟩ := isIB_spec h
        exact ⟨n :: l, rfl, fun m hm => by
          rcases List.mem_cons.1 hm with rfl | hm
          · unfold I64; omega
          · exact hl m hm⟩
      · cases h
    · cases h
def addI (l : List Int) (o n : Int) : List Int := match decide (0 ≤ n) with
  | true => isrt (l ++ List.replicate (min n 1000).toNat o)
  | false => isrt (delN o (-n).toNat l)
theorem addI_eq (l : List Int) (o n : Int) : addB l o n = addI l o n := by
  unfold addB addI
  by_cases h : 0 ≤ n
  · rw [if_pos h, decide_eq_true h, srt_isrt]
  · rw [if_neg h, decide_eq_false h, srt_isrt]
def extB (f : Nat) (ts : List T) : Ans := match Nat.beq f 24 with
  | true => match ts with
    | [.list 1 xs, .int .i64 o, .int .i64 n] => match isIB xs && decide (xs.length ≤ 1000) && decide (-1000 ≤ o ∧ o ≤ 1000 ∧ -1000 ≤ n ∧ n ≤ 1000) with
      | true => .yes (.list 1 (is (addI (nums xs) o n)))
      | false => .no
    | _ => .no
  | false => match Nat.beq f 30 with
    | true => match ts with
      | [.list 1 xs, .list 1 ys] => match isIB xs && isIB ys && decide (xs.length ≤ 1000 ∧ ys.length ≤ 1000) with
        | true => .yes (.list 1 (is (isrt (nums xs ++ nums ys))))
        | false => .no
      | _ => .no
    | false => .no
theorem extB_ok : ExtOk Try.prog tgl extB := by
  refine ⟨fun f vs x h0 => ?_, fun f vs p d sz xs h hp => ?_, fun f vs p d x h hp => ?_⟩
  · have h : extB f vs = .yes x := by
      rcases h0 with h | ⟨p, d, h, _⟩
      · exact h
      · exfalso
        unfold extB at h
        repeat' (split at h)
        all_goals cases h
    clear h0
    unfold extB at h
    split at h
    · rename_i hf
      obtain rfl := Nat.eq_of_beq_eq_true hf
      split at h
      · split at h
        · rename_i hd
          simp only [Bool.and_eq_true, decide_eq_true_eq] at hd
          cases h
          rw [← addI_eq]
          have hI := isIB_spec hd.1.1
          refine ok24 _ _ _ ⟨⟨hI, ?_⟩, ?_, ?_⟩
          · have := hd.1.2
            have h2 : ∀ n : Int, (minI n 1000).toNat ≤ 1000 := fun n => by rw [minI_def]; split <;> omega
            unfold maxBytes
            exact Nat.le_trans (Nat.mul_le_mul_right _ (Nat.add_le_add this (h2 _))) (by decide)
          · unfold I64; omega
          · unfold I64; omega
        · cases h
      · cases h
    · split at h
      · rename_i hf
        obtain rfl := Nat.eq_of_beq_eq_true hf
        split at h
        · split at h
          · rename_i hd
            simp only [Bool.and_eq_true, decide_eq_true_eq] at hd
            cases h
            rw [← srt_isrt]
            refine ok30 _ _ ⟨⟨isIB_spec hd.1.1, isIB_spec hd.1.2⟩, ?_⟩
            have := hd.2
            unfold maxBytes; omega
          · cases h
        · cases h
      · cases h
  · exfalso
    unfold extB at h
    repeat' (split at h)
    all_goals cases h
  · exfalso
    unfold extB at h
    repeat' (split at h)
    all_goals cases h
noncomputable def tabB : List (Nat × Nat × MFn) := [(3, 0, m3), (4, 0, m4), (5, 0, m5), (6, 0, m6), (7, 0, m7), (8, 0, m8), (9, 0, m9), (10, 0, m10), (11, 0, m11), (12, 0, m12), (13, 0, m13), (14, 0, m14), (15, 0, m15), (16, 0, m16), (17, 0, m17), (18, 0, m18), (19, 0, m19), (20, 0, m20), (21, 0, m21), (22, 0, m22), (23, 0, m23), (25, 0, m25), (26, 0, m26), (27, 0, m27), (28, 0, m28), (29, 0, m29), (31, 0, m31), (32, 0, m32), (33, 0, m33), (34, 0, m34), (35, 0, m35), (36, 0, m36), (37, 0, m37), (38, 0, m38), (39, 0, m39), (40, 0, m40), (41, 0, m41), (42, 0, m42), (43, 0, m43), (44, 0, m44), (45, 0, m45), (46, 0, m46), (47, 0, m47), (48, 1, m48), (49, 1, m49), (50, 1, m50), (51, 0, m51), (52, 0, m52), (53, 0, m53), (54, 0, m54), (55, 1, m55), (57, 0, m57), (59, 0, m59), (60, 0, m60), (61, 0, m61), (62, 0, m62), (63, 0, m63), (64, 0, m64), (65, 0, m65), (66, 0, m66), (67, 0, m67), (68, 0, m68), (69, 0, m69), (70, 0, m70), (71, 0, m71), (72, 0, m72), (73, 0, m73), (74, 0, m74), (75, 0, m75), (76, 1, m76), (77, 1, m77), (78, 0, m78), (79, 0, m79), (80, 0, m80), (81, 0, m81), (83, 0, m83), (84, 0, m84), (85, 0, m85), (86, 0, m86), (87, 0, m87), (88, 0, m88), (89, 1, m89), (90, 0, m90), (91, 0, m91), (92, 0, m92), (93, 0, m93), (94, 0, m94), (95, 0, m95), (96, 0, m96), (97, 0, m97), (98, 0, m98), (99, 0, m99), (100, 0, m100), (101, 0, m101), (102, 0, m102), (103, 0, m103), (104, 0, m104), (105, 0, m105), (106, 0, m106), (107, 0, m107), (108, 1, m108), (109, 0, m109), (110, 0, m110), (111, 0, m111), (112, 0, m112), (113, 0, m113), (114, 0, m114), (115, 0, m115), (116, 0, m116), (117, 0, m117), (118, 0, m118), (119, 0, m119), (120, 0, m120), (121, 0, m121), (122, 0, m122), (123, 0, m123), (124, 0, m124), (125, 0, m125), (126, 0, m126), (127, 0, m127), (128, 0, m128)]
theorem tabB_ok : ∀ p ∈ tabB, ∃ fn, Try.prog.funcs[p.1]? = some fn ∧ lowFn Try.prog fn = some p.2.2 := (tab_cons ⟨_, Try.func3, low3⟩ (tab_cons ⟨_, Try.func4, low4⟩ (tab_cons ⟨_, Try.func5, low5⟩ (tab_cons ⟨_, Try.func6, low6⟩ (tab_cons ⟨_, Try.func7, low7⟩ (tab_cons ⟨_, Try.func8, low8⟩ (tab_cons ⟨_, Try.func9, low9⟩ (tab_cons ⟨_, Try.func10, low10⟩ (tab_cons ⟨_, Try.func11, low11⟩ (tab_cons ⟨_, Try.func12, low12⟩ (tab_cons ⟨_, Try.func13, low13⟩ (tab_cons ⟨_, Try.func14, low14⟩ (tab_cons ⟨_, Try.func15, low15⟩ (tab_cons ⟨_, Try.func16, low16⟩ (tab_cons ⟨_, Try.func17, low17⟩ (tab_cons ⟨_, Try.func18, low18⟩ (tab_cons ⟨_, Try.func19, low19⟩ (tab_cons ⟨_, Try.func20, low20⟩ (tab_cons ⟨_, Try.func21, low21⟩ (tab_cons ⟨_, Try.func22, low22⟩ (tab_cons ⟨_, Try.func23, low23⟩ (tab_cons ⟨_, Try.func25, low25⟩ (tab_cons ⟨_, Try.func26, low26⟩ (tab_cons ⟨_, Try.func27, low27⟩ (tab_cons ⟨_, Try.func28, low28⟩ (tab_cons ⟨_, Try.func29, low29⟩ (tab_cons ⟨_, Try.func31, low31⟩ (tab_cons ⟨_, Try.func32, low32⟩ (tab_cons ⟨_, Try.func33, low33⟩ (tab_cons ⟨_, Try.func34, low34⟩ (tab_cons ⟨_, Try.func35, low35⟩ (tab_cons ⟨_, Try.func36, low36⟩ (tab_cons ⟨_, Try.func37, low37⟩ (tab_cons ⟨_, Try.func38, low38⟩ (tab_cons ⟨_, Try.func39, low39⟩ (tab_cons ⟨_, Try.func40, low40⟩ (tab_cons ⟨_, Try.func41, low41⟩ (tab_cons ⟨_, Try.func42, low42⟩ (tab_cons ⟨_, Try.func43, low43⟩ (tab_cons ⟨_, Try.func44, low44⟩ (tab_cons ⟨_, Try.func45, low45⟩ (tab_cons ⟨_, Try.func46, low46⟩ (tab_cons ⟨_, Try.func47, low47⟩ (tab_cons ⟨_, Try.func48, low48⟩ (tab_cons ⟨_, Try.func49, low49⟩ (tab_cons ⟨_, Try.func50, low50⟩ (tab_cons ⟨_, Try.func51, low51⟩ (tab_cons ⟨_, Try.func52, low52⟩ (tab_cons ⟨_, Try.func53, low53⟩ (tab_cons ⟨_, Try.func54, low54⟩ (tab_cons ⟨_, Try.func55, low55⟩ (tab_cons ⟨_, Try.func57, low57⟩ (tab_cons ⟨_, Try.func59, low59⟩ (tab_cons ⟨_, Try.func60, low60⟩ (tab_cons ⟨_, Try.func61, low61⟩ (tab_cons ⟨_, Try.func62, low62⟩ (tab_cons ⟨_, Try.func63, low63⟩ (tab_cons ⟨_, Try.func64, low64⟩ (tab_cons ⟨_, Try.func65, low65⟩ (tab_cons ⟨_, Try.func66, low66⟩ (tab_cons ⟨_, Try.func67, low67⟩ (tab_cons ⟨_, Try.func68, low68⟩ (tab_cons ⟨_, Try.func69, low69⟩ (tab_cons ⟨_, Try.func70, low70⟩ (tab_cons ⟨_, Try.func71, low71⟩ (tab_cons ⟨_, Try.func72, low72⟩ (tab_cons ⟨_, Try.func73, low73⟩ (tab_cons ⟨_, Try.func74, low74⟩ (tab_cons ⟨_, Try.func75, low75⟩ (tab_cons ⟨_, Try.func76, low76⟩ (tab_cons ⟨_, Try.func77, low77⟩ (tab_cons ⟨_, Try.func78, low78⟩ (tab_cons ⟨_, Try.func79, low79⟩ (tab_cons ⟨_, Try.func80, low80⟩ (tab_cons ⟨_, Try.func81, low81⟩ (tab_cons ⟨_, Try.func83, low83⟩ (tab_cons ⟨_, Try.func84, low84⟩ (tab_cons ⟨_, Try.func85, low85⟩ (tab_cons ⟨_, Try.func86, low86⟩ (tab_cons ⟨_, Try.func87, low87⟩ (tab_cons ⟨_, Try.func88, low88⟩ (tab_cons ⟨_, Try.func89, low89⟩ (tab_cons ⟨_, Try.func90, low90⟩ (tab_cons ⟨_, Try.func91, low91⟩ (tab_cons ⟨_, Try.func92, low92⟩ (tab_cons ⟨_, Try.func93, low93⟩ (tab_cons ⟨_, Try.func94, low94⟩ (tab_cons ⟨_, Try.func95, low95⟩ (tab_cons ⟨_, Try.func96, low96⟩ (tab_cons ⟨_, Try.func97, low97⟩ (tab_cons ⟨_, Try.func98, low98⟩ (tab_cons ⟨_, Try.func99, low99⟩ (tab_cons ⟨_, Try.func100, low100⟩ (tab_cons ⟨_, Try.func101, low101⟩ (tab_cons ⟨_, Try.func102, low102⟩ (tab_cons ⟨_, Try.func103, low103⟩ (tab_cons ⟨_, Try.func104, low104⟩ (tab_cons ⟨_, Try.func105, low105⟩ (tab_cons ⟨_, Try.func106, low106⟩ (tab_cons ⟨_, Try.func107, low107⟩ (tab_cons ⟨_, Try.func108, low108⟩ (tab_cons ⟨_, Try.func109, low109⟩ (tab_cons ⟨_, Try.func110, low110⟩ (tab_cons ⟨_, Try.func111, low111⟩ (tab_cons ⟨_, Try.func112, low112⟩ (tab_cons ⟨_, Try.func113, low113⟩ (tab_cons ⟨_, Try.func114, low114⟩ (tab_cons ⟨_, Try.func115, low115⟩ (tab_cons ⟨_, Try.func116, low116⟩ (tab_cons ⟨_, Try.func117, low117⟩ (tab_cons ⟨_, Try.func118, low118⟩ (tab_cons ⟨_, Try.func119, low119⟩ (tab_cons ⟨_, Try.func120, low120⟩ (tab_cons ⟨_, Try.func121, low121⟩ (tab_cons ⟨_, Try.func122, low122⟩ (tab_cons ⟨_, Try.func123, low123⟩ (tab_cons ⟨_, Try.func124, low124⟩ (tab_cons ⟨_, Try.func125, low125⟩ (tab_cons ⟨_, Try.func126, low126⟩ (tab_cons ⟨_, Try.func127, low127⟩ (tab_cons ⟨_, Try.func128, low128⟩ tab_nil)))))))))))))))))))))))))))))))))))))))))))))))))))))))))))))))))))))))))))))))))))))))))))))))))))))))))))))))))))))))))
theorem ok18 : FnOk Try.prog tgl 18 [] (.bool true) := ev_ok (ext := extB) (tab := tabB) (fuel := 3000) (d := 40) extB_ok tabB_ok (by kernel_rfl)
open Classical in
noncomputable def c18 : List T → Ans
  | [] => .yes (.bool true)
  | _ => .no
theorem got18 {vs : List T} {x : T} (h : Got (c18 vs) x) : FnOk Try.prog tgl 18 vs x := by
  unfold c18 at h
  split at h
  · rw [got_yes h]; exact ok18
  · exact (got_no h).elim
theorem nogl18 (vs : List T) (p : Prop) (d : Decidable p) (sz : Nat) (xs : List T) (h : c18 vs = @Ans.gl p d sz xs) : False := by
  unfold c18 at h
  split at h <;> cases h
theorem pk18 (vs : List T) (p : Prop) (d : Decidable p) (x : T) (h : c18 vs = @Ans.pk p d x) (hp : p) : FnOk Try.prog tgl 18 vs x := by
  unfold c18 at h
  split at h <;> cases h
end Go.Nx
