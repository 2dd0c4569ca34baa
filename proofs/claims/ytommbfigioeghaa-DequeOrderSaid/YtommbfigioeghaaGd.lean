/-
  A DEQUE's STEP TURNS ONE CELL AT MOST.
-/
import Derived.Test.YtommbfigioeghaaGc
import Derived.Test.YtommbfigioeghaaYd
set_option linter.unusedVariables false
set_option linter.unusedSimpArgs false
set_option maxRecDepth 100000
set_option maxHeartbeats 4000000
namespace Go.Nx
open Go.RowKit Go.Proofs

noncomputable def tabD : List (Nat × Nat × MFn) := [(3, 0, m3), (4, 0, m4), (5, 0, m5), (6, 0, m6), (7, 0, m7), (8, 0, m8), (9, 0, m9), (10, 0, m10), (11, 0, m11), (12, 0, m12), (13, 0, m13), (14, 0, m14), (15, 0, m15), (16, 0, m16), (17, 0, m17), (18, 0, m18), (19, 0, m19), (20, 0, m20), (21, 0, m21), (22, 0, m22), (23, 0, m23), (24, 0, m24), (25, 0, m25), (26, 0, m26), (27, 0, m27), (28, 0, m28), (29, 0, m29), (30, 0, m30), (31, 0, m31), (32, 0, m32), (33, 0, m33), (34, 0, m34), (35, 0, m35), (36, 0, m36), (37, 0, m37), (38, 0, m38), (39, 0, m39), (40, 0, m40), (41, 0, m41), (42, 0, m42), (43, 0, m43), (44, 0, m44), (45, 0, m45), (46, 0, m46), (47, 0, m47), (48, 0, m48), (49, 0, m49), (50, 0, m50), (51, 0, m51), (52, 0, m52), (53, 0, m53), (54, 0, m54), (55, 0, m55), (56, 0, m56), (57, 0, m57), (58, 0, m58), (59, 0, m59), (60, 0, m60), (61, 0, m61), (62, 0, m62), (63, 0, m63), (64, 2, m64), (65, 2, m65), (66, 0, m66), (67, 2, m67), (68, 2, m68), (69, 0, m69), (70, 0, m70), (71, 0, m71), (72, 0, m72), (73, 0, m73), (74, 0, m74), (75, 0, m75), (76, 0, m76), (77, 0, m77), (78, 0, m78), (79, 0, m79), (80, 0, m80), (81, 0, m81), (82, 0, m82), (83, 0, m83), (84, 0, m84), (85, 0, m85), (86, 0, m86), (87, 0, m87), (88, 1, m88), (89, 0, m89), (90, 0, m90), (91, 0, m91), (92, 0, m92), (93, 0, m93), (94, 1, m94), (95, 1, m95), (96, 1, m96), (97, 1, m97), (98, 1, m98), (99, 1, m99), (100, 1, m100), (101, 1, m101), (102, 1, m102), (103, 1, m103), (104, 1, m104), (105, 1, m105), (106, 1, m106), (107, 1, m107), (108, 0, m108), (109, 0, m109), (110, 0, m110), (111, 0, m111), (112, 0, m112), (113, 0, m113), (114, 0, m114), (115, 0, m115), (116, 0, m116), (117, 0, m117), (118, 0, m118), (119, 1, m119), (120, 0, m120), (121, 1, m121), (122, 0, m122), (123, 0, m123), (124, 0, m124), (125, 0, m125), (126, 0, m126), (127, 0, m127), (128, 0, m128)]
theorem tabD_ok : ∀ p ∈ tabD, ∃ fn, Try.prog.funcs[p.1]? = some fn ∧ lowFn Try.prog fn = some p.2.2 := (tab_cons ⟨_, Try.func3, low3⟩ (tab_cons ⟨_, Try.func4, low4⟩ (tab_cons ⟨_, Try.func5, low5⟩ (tab_cons ⟨_, Try.func6, low6⟩ (tab_cons ⟨_, Try.func7, low7⟩ (tab_cons ⟨_, Try.func8, low8⟩ (tab_cons ⟨_, Try.func9, low9⟩ (tab_cons ⟨_, Try.func10, low10⟩ (tab_cons ⟨_, Try.func11, low11⟩ (tab_cons ⟨_, Try.func12, low12⟩ (tab_cons ⟨_, Try.func13, low13⟩ (tab_cons ⟨_, Try.func14, low14⟩ (tab_cons ⟨_, Try.func15, low15⟩ (tab_cons ⟨_, Try.func16, low16⟩ (tab_cons ⟨_, Try.func17, low17⟩ (tab_cons ⟨_, Try.func18, low18⟩ (tab_cons ⟨_, Try.func19, low19⟩ (tab_cons ⟨_, Try.func20, low20⟩ (tab_cons ⟨_, Try.func21, low21⟩ (tab_cons ⟨_, Try.func22, low22⟩ (tab_cons ⟨_, Try.func23, low23⟩ (tab_cons ⟨_, Try.func24, low24⟩ (tab_cons ⟨_, Try.func25, low25⟩ (tab_cons ⟨_, Try.func26, low26⟩ (tab_cons ⟨_, Try.func27, low27⟩ (tab_cons ⟨_, Try.func28, low28⟩ (tab_cons ⟨_, Try.func29, low29⟩ (tab_cons ⟨_, Try.func30, low30⟩ (tab_cons ⟨_, Try.func31, low31⟩ (tab_cons ⟨_, Try.func32, low32⟩ (tab_cons ⟨_, Try.func33, low33⟩ (tab_cons ⟨_, Try.func34, low34⟩ (tab_cons ⟨_, Try.func35, low35⟩ (tab_cons ⟨_, Try.func36, low36⟩ (tab_cons ⟨_, Try.func37, low37⟩ (tab_cons ⟨_, Try.func38, low38⟩ (tab_cons ⟨_, Try.func39, low39⟩ (tab_cons ⟨_, Try.func40, low40⟩ (tab_cons ⟨_, Try.func41, low41⟩ (tab_cons ⟨_, Try.func42, low42⟩ (tab_cons ⟨_, Try.func43, low43⟩ (tab_cons ⟨_, Try.func44, low44⟩ (tab_cons ⟨_, Try.func45, low45⟩ (tab_cons ⟨_, Try.func46, low46⟩ (tab_cons ⟨_, Try.func47, low47⟩ (tab_cons ⟨_, Try.func48, low48⟩ (tab_cons ⟨_, Try.func49, low49⟩ (tab_cons ⟨_, Try.func50, low50⟩ (tab_cons ⟨_, Try.func51, low51⟩ (tab_cons ⟨_, Try.func52, low52⟩ (tab_cons ⟨_, Try.func53, low53⟩ (tab_cons ⟨_, Try.func54, low54⟩ (tab_cons ⟨_, Try.func55, low55⟩ (tab_cons ⟨_, Try.func56, low56⟩ (tab_cons ⟨_, Try.func57, low57⟩ (tab_cons ⟨_, Try.func58, low58⟩ (tab_cons ⟨_, Try.func59, low59⟩ (tab_cons ⟨_, Try.func60, low60⟩ (tab_cons ⟨_, Try.func61, low61⟩ (tab_cons ⟨_, Try.func62, low62⟩ (tab_cons ⟨_, Try.func63, low63⟩ (tab_cons ⟨_, Try.func64, low64⟩ (tab_cons ⟨_, Try.func65, low65⟩ (tab_cons ⟨_, Try.func66, low66⟩ (tab_cons ⟨_, Try.func67, low67⟩ (tab_cons ⟨_, Try.func68, low68⟩ (tab_cons ⟨_, Try.func69, low69⟩ (tab_cons ⟨_, Try.func70, low70⟩ (tab_cons ⟨_, Try.func71, low71⟩ (tab_cons ⟨_, Try.func72, low72⟩ (tab_cons ⟨_, Try.func73, low73⟩ (tab_cons ⟨_, Try.func74, low74⟩ (tab_cons ⟨_, Try.func75, low75⟩ (tab_cons ⟨_, Try.func76, low76⟩ (tab_cons ⟨_, Try.func77, low77⟩ (tab_cons ⟨_, Try.func78, low78⟩ (tab_cons ⟨_, Try.func79, low79⟩ (tab_cons ⟨_, Try.func80, low80⟩ (tab_cons ⟨_, Try.func81, low81⟩ (tab_cons ⟨_, Try.func82, low82⟩ (tab_cons ⟨_, Try.func83, low83⟩ (tab_cons ⟨_, Try.func84, low84⟩ (tab_cons ⟨_, Try.func85, low85⟩ (tab_cons ⟨_, Try.func86, low86⟩ (tab_cons ⟨_, Try.func87, low87⟩ (tab_cons ⟨_, Try.func88, low88⟩ (tab_cons ⟨_, Try.func89, low89⟩ (tab_cons ⟨_, Try.func90, low90⟩ (tab_cons ⟨_, Try.func91, low91⟩ (tab_cons ⟨_, Try.func92, low92⟩ (tab_cons ⟨_, Try.func93, low93⟩ (tab_cons ⟨_, Try.func94, low94⟩ (tab_cons ⟨_, Try.func95, low95⟩ (tab_cons ⟨_, Try.func96, low96⟩ (tab_cons ⟨_, Try.func97, low97⟩ (tab_cons ⟨_, Try.func98, low98⟩ (tab_cons ⟨_, Try.func99, low99⟩ (tab_cons ⟨_, Try.func100, low100⟩ (tab_cons ⟨_, Try.func101, low101⟩ (tab_cons ⟨_, Try.func102, low102⟩ (tab_cons ⟨_, Try.func103, low103⟩ (tab_cons ⟨_, Try.func104, low104⟩ (tab_cons ⟨_, Try.func105, low105⟩ (tab_cons ⟨_, Try.func106, low106⟩ (tab_cons ⟨_, Try.func107, low107⟩ (tab_cons ⟨_, Try.func108, low108⟩ (tab_cons ⟨_, Try.func109, low109⟩ (tab_cons ⟨_, Try.func110, low110⟩ (tab_cons ⟨_, Try.func111, low111⟩ (tab_cons ⟨_, Try.func112, low112⟩ (tab_cons ⟨_, Try.func113, low113⟩ (tab_cons ⟨_, Try.func114, low114⟩ (tab_cons ⟨_, Try.func115, low115⟩ (tab_cons ⟨_, Try.func116, low116⟩ (tab_cons ⟨_, Try.func117, low117⟩ (tab_cons ⟨_, Try.func118, low118⟩ (tab_cons ⟨_, Try.func119, low119⟩ (tab_cons ⟨_, Try.func120, low120⟩ (tab_cons ⟨_, Try.func121, low121⟩ (tab_cons ⟨_, Try.func122, low122⟩ (tab_cons ⟨_, Try.func123, low123⟩ (tab_cons ⟨_, Try.func124, low124⟩ (tab_cons ⟨_, Try.func125, low125⟩ (tab_cons ⟨_, Try.func126, low126⟩ (tab_cons ⟨_, Try.func127, low127⟩ (tab_cons ⟨_, Try.func128, low128⟩ tab_nil))))))))))))))))))))))))))))))))))))))))))))))))))))))))))))))))))))))))))))))))))))))))))))))))))))))))))))))))))))))))))))))
theorem ok33 : FnOk Try.prog tgl 33 [] (.bool true) := ev_ok (ext := (fun _ _ => .no)) (tab := tabD) (fuel := 1000) (d := 20) extNo tabD_ok (by kernel_rfl)
open Classical in
noncomputable def c33 : List T → Ans
  | [] => .yes (.bool true)
  | _ => .no
theorem got33 {vs : List T} {x : T} (h : Got (c33 vs) x) : FnOk Try.prog tgl 33 vs x := by
  unfold c33 at h
  split at h
  · rw [got_yes h]; exact ok33
  · exact (got_no h).elim
theorem nogl33 (vs : List T) (p : Prop) (d : Decidable p) (sz : Nat) (xs : List T) (h : c33 vs = @Ans.gl p d sz xs) : False := by
  unfold c33 at h
  split at h <;> cases h
theorem pk33 (vs : List T) (p : Prop) (d : Decidable p) (x : T) (h : c33 vs = @Ans.pk p d x) (hp : p) : FnOk Try.prog tgl 33 vs x := by
  unfold c33 at h
  split at h <;> cases h
def eqL (a b : List Int) : Bool := decide (a = b)
theorem sz_len {l : List Int} (h : Sz (us l)) : l.length ≤ 17592186044416 := by
  unfold Sz maxBytes at h
  rw [us_len] at h
  omega
theorem szi_len {l : List Int} (h : Sz (is l)) : l.length ≤ 17592186044416 := by
  unfold Sz maxBytes at h
  rw [is_len] at h
  omega
theorem take_next {l r : List Int} {k : Nat} (h : l.take k = r.take k) (hl : k < l.length) (hr : k < r.length) (e : at0 l k = at0 r k) : l.take (k + 1) = r.take (k + 1) := by
  rw [List.take_add_one, List.take_add_one, h]
  congr 1
  simp [at0, hl, hr] at e
  simp [hl, hr, e]
theorem eqL_no {l r : List Int} {k : Nat} (hl : k < l.length) (hr : k < r.length) (e : at0 l k ≠ at0 r k) : eqL l r = false := by
  unfold eqL
  rw [decide_eq_false_iff_not]
  intro h; subst h; exact e rfl
noncomputable def lE7 : List (Nat × (List T → Ans)) := (62, c62) :: (33, c33) :: lE6
noncomputable def iE7 : List (Nat × Pt) := iE6
noncomputable abbrev E7 : Env := En tgl lE7 iE7
theorem env_E7 : EnvOk Try.prog E7 := (env_fn (env_fn env_E6 (fun _ _ => got33) (fun vs p d sz xs h _ => (nogl33 vs p d sz xs h).elim) pk33) (fun _ _ => got62) (fun vs p d sz xs h _ => (nogl62 vs p d sz xs h).elim) pk62)
theorem eqL_self (a : List Int) : eqL a a = true := by simp [eqL]
theorem wrapi_I (n : Int) : I64 (IntKind.i64.wrap n) := by
  rw [IntKind.wrap_i64]; unfold I64; omega
def cntN (a b : List Int) : Nat → Int
  | 0 => 0
  | k + 1 => cntN a b k + if at0 a k ≠ at0 b k then 1 else 0
theorem cnt_same (a : List Int) (k : Nat) : cntN a a k = 0 := by
  induction k with
  | zero => rfl
  | succ k ih => simp [cntN, ih]
theorem at0_set (l : List Int) (i : Nat) (v : Int) (k : Nat) : at0 (l.set i v) k = if i = k ∧ k < l.length then v else at0 l k := by
  unfold at0
  rw [List.getElem?_set]
  simp only [Int.toNat_natCast]
  by_cases h : i = k
  · subst h
    by_cases h2 : i < l.length
    · simp [h2]
    · simp [h2]
  · simp [h]
theorem cnt_set (l : List Int) (i : Nat) (v : Int) (k : Nat) : cntN (l.set i v) l k = if i < k ∧ i < l.length ∧ v ≠ at0 l i then 1 else 0 := by
  induction k with
  | zero => simp [cntN]
  | succ k ih =>
    rw [cntN, ih, at0_set]
    by_cases h : i = k
    · subst h
      by_cases h2 : i < l.length
      · by_cases h3 : v = at0 l i <;> simp [h2, h3]
      · simp [h2]
    · simp only [h, false_and, if_false, ne_eq, not_true_eq_false]
      by_cases h4 : i < k
      · have : i < k + 1 := by omega
        simp [h4, this]
      · have : ¬ i < k + 1 := by omega
        simp [h4, this]

theorem at0_setI (l : List Int) (i j v : Int) (hi : 0 ≤ i) (hj : 0 ≤ j) : at0 (l.set i.toNat v) j = if i = j ∧ j < l.length then v else at0 l j := by
  have h1 : (j.toNat : Int) = j := Int.toNat_of_nonneg hj
  rw [← h1, at0_set]
  by_cases h : i = j
  · subst h
    by_cases h2 : i < l.length
    · have : i.toNat < l.length := by omega
      simp [this, h1, h2]
    · have : ¬ i.toNat < l.length := by omega
      simp [this, h1, h2]
  · have : ¬ i.toNat = j.toNat := by omega
    simp [this, h1, h]
/-- where a step may write -/
def Pl (d : DM) (j : Int) : Prop := j = d.base ∨ j = wi (d.base + 1) ∨ ∃ i, R64 i ∧ j = plR d.base d.cap i
theorem do_set (l : List Int) (k i a b : Int) : doL l k i a b = l ∨ ∃ v, 0 ≤ i ∧ i < l.length ∧ doL l k i a b = l.set i.toNat v := by
  unfold doL
  split
  · rename_i h
    split
    · exact .inr ⟨_, h.1, h.2, rfl⟩
    · split
      · split
        · exact .inr ⟨_, h.1, h.2, rfl⟩
        · exact .inl rfl
      · split
        · exact .inr ⟨_, h.1, h.2, rfl⟩
        · exact .inl rfl
  · exact .inl rfl
def Ws (l : List Int) (d : DM) (X : List Int × DM) : Prop := X.1 = l ∨ ∃ j v, Pl d j ∧ 0 ≤ j ∧ j < l.length ∧ X.1 = l.set j.toNat v
theorem ite_q {α : Type} {Q : α → Prop} {c : Prop} [Decidable c] {x y : α} (hx : Q x) (hy : Q y) : Q (if c then x else y) := by split <;> assumption
theorem dstep_set (l : List Int) (d : DM) (hb : R64 d.b) : Ws l d (dstep l d) := by
  have key : ∀ k i a b (e : DM), Pl d i → Ws l d (doL l k i a b, e) := fun k i a b e hp => by
    rcases do_set l k i a b with h | ⟨v, h1, h2, h3⟩
    · exact .inl h
    · exact .inr ⟨i, v, hp, h1, h2, h3⟩
  have p1 : Pl d d.base := .inl rfl
  have p2 : Pl d (wi (d.base + 1)) := .inr (.inl rfl)
  have p3 : Pl d (plR d.base d.cap d.b) := .inr (.inr ⟨d.b, hb, rfl⟩)
  have no : ∀ e, Ws l d (l, e) := fun e => .inl rfl
  unfold dstep
  repeat' (refine ite_q (Q := Ws l d) ?_ ?_)
  all_goals first
    | exact no _
    | exact key _ _ _ _ _ p1
    | exact key _ _ _ _ _ p2
    | exact key _ _ _ _ _ p3
theorem dstep_len (l : List Int) (d : DM) (hb : R64 d.b) : (dstep l d).1.length = l.length := by
  rcases dstep_set l d hb with h | ⟨j, v, _, _, _, h⟩ <;> rw [h]
  simp
theorem dcnt (l : List Int) (d : DM) (hb : R64 d.b) (k : Nat) : 0 ≤ cntN (dstep l d).1 l k ∧ cntN (dstep l d).1 l k ≤ 1 := by
  rcases dstep_set l d hb with h | ⟨j, v, _, _, _, h⟩ <;> rw [h]
  · rw [cnt_same]; omega
  · rw [cnt_set]; split <;> omega
theorem wi_mod (n : Int) : ∃ q : Int, wi n = n + q * 18446744073709551616 ∧ -9223372036854775808 ≤ wi n ∧ wi n ≤ 9223372036854775807 := by
  have : wi n = (n + 9223372036854775808) % 18446744073709551616 - 9223372036854775808 := IntKind.wrap_i64 n
  refine ⟨-((n + 9223372036854775808) / 18446744073709551616), ?_, ?_, ?_⟩ <;> omega
theorem pl_in {d : DM} (hc : I64 d.cap) (hb : I64 d.base) {j : Int} (h0 : 0 ≤ j) (h1 : j ≤ 17592186044416) (hp : Pl d j) : d.base ≤ j ∧ wi (wi (j - d.base) - 2) < maxI d.cap 1 := by
  obtain ⟨hb1, hb2⟩ := hb
  obtain ⟨hc1, hc2⟩ := hc
  have hm : 1 ≤ maxI d.cap 1 ∧ maxI d.cap 1 ≤ 9223372036854775807 := by rw [maxI_def]; split <;> omega
  obtain ⟨q1, e1, f1, g1⟩ := wi_mod (j - d.base)
  obtain ⟨q2, e2, f2, g2⟩ := wi_mod (wi (j - d.base) - 2)
  rcases hp with h | h | ⟨i, hi, h⟩
  · subst h
    omega
  · obtain ⟨q3, e3, f3, g3⟩ := wi_mod (d.base + 1)
    rw [← h] at e3 f3 g3
    omega
  · unfold plR at h
    have hs : wu (maxI d.cap 1) = maxI d.cap 1 := wrap_u64 ⟨by omega, by omega⟩
    have ht : i.tmod (maxI d.cap 1) = i % maxI d.cap 1 := Int.tmod_eq_emod_of_nonneg hi.1
    have hr0 : 0 ≤ i % maxI d.cap 1 := Int.emod_nonneg _ (by omega)
    have hr1 : i % maxI d.cap 1 < maxI d.cap 1 := Int.emod_lt_of_pos _ (by omega)
    have hwr : wi (i % maxI d.cap 1) = i % maxI d.cap 1 := wrap_i64 ⟨by omega, by omega⟩
    rw [hs, ht, hwr] at h
    generalize i % maxI d.cap 1 = r at h hr0 hr1
    obtain ⟨q3, e3, f3, g3⟩ := wi_mod (d.base + 2)
    obtain ⟨q4, e4, f4, g4⟩ := wi_mod (wi (d.base + 2) + r)
    rw [← h] at e4 f4 g4
    omega
theorem dstep_no {l : List Int} {d : DM} (h : d.out ≠ 0) : dstep l d = (l, d) := by rw [dstep, if_neg h]
theorem dstep_keep (l : List Int) (d : DM) : (dstep l d).2.kind = d.kind ∧ (dstep l d).2.base = d.base ∧ (dstep l d).2.cap = d.cap := by
  unfold dstep
  repeat' split
  all_goals simp_all
end Go.Nx
