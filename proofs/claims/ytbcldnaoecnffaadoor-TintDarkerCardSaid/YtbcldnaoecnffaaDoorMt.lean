/-
  CODE, AND A FUNCTION: the machine's run gives the program's.
-/
import Derived.Test.YtbcldnaoecnffaaDoorMs
import Derived.Tactics
set_option linter.unusedVariables false
namespace Go.Mx
open Go.RowKit

section
variable {P : Program} {Γ : Env} {B : Base}

theorem replicate_getD (n j : Nat) : (Array.replicate n false).getD j false = false := by
  by_cases h : j < n <;> simp [h]

def exitOf : Ex → Exit
  | .normal => .normal
  | .exit i => .exit i
  | .ret => .ret

theorem notIn_mk {j : Nat} : ∀ {kk : List Nat}, j ∉ kk → notIn j kk = true := by
  intro kk
  induction kk with
  | nil => intro _; rfl
  | cons x r ih =>
    intro h
    simp only [List.mem_cons, not_or] at h
    simp only [notIn]
    have : Nat.beq x j = false := by rw [← Bool.not_eq_true, Nat.beq_eq]; exact fun e => h.1 e.symm
    rw [this]; exact ih h.2
/-- a loop, by a measure on what the machine's state is -/
theorem wp_loop_by {α : Type} {c : Code} {Q : Exit → Act → World → Prop} (R : α → Act → World → Prop) (μ : α → Nat) {s : α} {a : Act} {w : World} (h0 : R s a w)
    (round : ∀ s a w, R s a w → c.wp P (Exit.then (fun a' w' => ∃ s', R s' a' w' ∧ μ s' < μ s) Q) a w) : (Code.loop c).wp P Q a w := by
  intro b k cs
  have all : ∀ n s a w, μ s ≤ n → R s a w → ∃ e a' w', Q e a' w' ∧ Arrives P (lone (b.at a (.code c :: .inLoop c :: k)) cs w) b k cs e a' w' := by
    intro n
    induction n with
    | zero =>
      intro s a w hn hR
      obtain ⟨e, a1, w1, hq, harr⟩ := round s a w hR b (.inLoop c :: k) cs
      cases e with
      | normal => obtain ⟨s', _, hlt⟩ := hq; omega
      | exit i => exact ⟨_, a1, w1, hq, .pass (x := .inLoop c) rfl (fun _ _ => .inl (by simp)) harr⟩
      | goto l => exact ⟨_, a1, w1, hq, .pass (x := .inLoop c) rfl (fun _ _ => .inl (by simp)) harr⟩
      | ret => exact ⟨_, a1, w1, hq, .pass (x := .inLoop c) rfl (fun _ _ => .inl (by simp)) harr⟩
      | panic ch => exact ⟨_, a1, w1, hq, .pass (x := .inLoop c) rfl (fun _ _ => .inl (by simp)) harr⟩
      | outgrown => exact ⟨_, a1, w1, hq, .pass (x := .inLoop c) rfl (fun _ _ => .inl (by simp)) harr⟩
    | succ n ih =>
      intro s a w hn hR
      obtain ⟨e, a1, w1, hq, harr⟩ := round s a w hR b (.inLoop c :: k) cs
      cases e with
      | normal =>
        obtain ⟨s', hR', hlt⟩ := hq
        obtain ⟨e2, a2, w2, hq2, harr2⟩ := ih s' a1 w1 (by omega) hR'
        exact ⟨e2, a2, w2, hq2, .of_steps (Steps.trans harr (.one step_inLoop)) harr2⟩
      | exit i => exact ⟨_, a1, w1, hq, .pass (x := .inLoop c) rfl (fun _ _ => .inl (by simp)) harr⟩
      | goto l => exact ⟨_, a1, w1, hq, .pass (x := .inLoop c) rfl (fun _ _ => .inl (by simp)) harr⟩
      | ret => exact ⟨_, a1, w1, hq, .pass (x := .inLoop c) rfl (fun _ _ => .inl (by simp)) harr⟩
      | panic ch => exact ⟨_, a1, w1, hq, .pass (x := .inLoop c) rfl (fun _ _ => .inl (by simp)) harr⟩
      | outgrown => exact ⟨_, a1, w1, hq, .pass (x := .inLoop c) rfl (fun _ _ => .inl (by simp)) harr⟩
  obtain ⟨e, a', w', hq, harr⟩ := all (μ s) s a w (Nat.le_refl _) h0
  exact ⟨e, a', w', hq, .of_steps (.one step_loop) harr⟩

theorem killK_good {kt kk : List Nat} {st : St} {K : St → Prop} {a : Act} {w : World} (h : killK kt kk st K) (hg : Good Γ B st a w) : ∃ st', K st' ∧ Good Γ B st' a w := by
  obtain ⟨tm, own⟩ := st
  simp only [killK] at h
  -- the slots that die
  have dead : ∀ (kt : List Nat) (tm : List V) (K : List V → Prop), deadK kt tm K → Good Γ B ⟨tm, own⟩ a w → ∃ tm', K tm' ∧ Good Γ B ⟨tm', own⟩ a w := by
    intro kt
    induction kt with
    | nil => intro tm K h hg; exact ⟨tm, h, hg⟩
    | cons i kt ih =>
      intro tm K h hg
      simp only [deadK] at h
      obtain ⟨h1, h2⟩ := setK_elim h
      refine ih _ K h2 ?_
      obtain ⟨S, ρ, hr⟩ := hg
      refine ⟨S, ρ, hr.keep, hr.base, hr.sub, hr.sup, hr.lt, hr.own, hr.cl, hr.disj, by simpa using hr.len, fun j v u hv hu => ?_, hr.defers, hr.gl⟩
      by_cases e : i = j
      · subst e
        rw [List.getElem?_set_self h1] at hv
        cases hv; trivial
      · rw [List.getElem?_set_ne e] at hv
        exact hr.tm j v u hv hu
  obtain ⟨tm', h1, hg1⟩ := dead kt tm _ h hg
  -- the blocks that go
  have drop : ∀ (l : List (Nat × Blk)) (K : List (Nat × Blk) → Prop), dropK kk l K → ∃ l', K l' ∧ ∀ k, look k l' = if k ∈ kk then none else look k l := by
    intro l
    induction l with
    | nil => intro K h; exact ⟨[], h, fun k => by simp [look]⟩
    | cons p l ih =>
      intro K h
      obtain ⟨j, b⟩ := p
      simp only [dropK] at h
      split at h
      · rename_i e
        obtain ⟨l', h1, h2⟩ := ih _ h
        refine ⟨_, h1, fun k => ?_⟩
        simp only [look]
        by_cases e2 : j = k
        · subst e2; simp [notIn_spec e]
        · simp [e2, h2]
      · rename_i e
        obtain ⟨l', h1, h2⟩ := ih _ h
        refine ⟨l', h1, fun k => ?_⟩
        rw [h2]
        simp only [look]
        by_cases e2 : j = k
        · subst e2
          have : j ∈ kk := by
            by_cases e3 : j ∈ kk
            · exact e3
            · rw [notIn_mk e3] at e; cases e
          simp [this]
        · simp [e2]
  obtain ⟨own', h2, hlook⟩ := drop own _ h1
  have refV : ∀ (v : V) (K : Prop), refK kk v K → (∀ k ∈ vKeys v, k ∉ kk) ∧ K := by
    intro v K h
    cases v <;> simp only [refK] at h
    case t | vptr | dead => exact ⟨fun k hk => by simp [vKeys] at hk, h⟩
    all_goals
      obtain ⟨h1, h2⟩ := natK_elim h
      exact ⟨fun k hk => by simp [vKeys] at hk; subst hk; exact notIn_spec h1, h2⟩
  have refsV : ∀ (l : List V) (K : Prop), refsK kk l K → (∀ v ∈ l, ∀ k ∈ vKeys v, k ∉ kk) ∧ K := by
    intro l
    induction l with
    | nil => intro K h; exact ⟨fun v hv => (by cases hv), h⟩
    | cons x l ih =>
      intro K h
      obtain ⟨h1, h2⟩ := refV x _ h
      obtain ⟨h3, h4⟩ := ih K h2
      refine ⟨fun v hv => ?_, h4⟩
      rcases List.mem_cons.1 hv with rfl | hv
      · exact h1
      · exact h3 v hv
  have refsB : ∀ (l : List (Nat × Blk)) (K : Prop), refsBK kk l K → (∀ k cs, look k l = some (.cells cs) → ∀ v ∈ cs, ∀ j ∈ vKeys v, j ∉ kk) ∧ K := by
    intro l
    induction l with
    | nil => intro K h; exact ⟨fun k cs hk => by simp [look] at hk, h⟩
    | cons p l ih =>
      intro K h
      obtain ⟨j, b⟩ := p
      cases b with
      | cells cs =>
        obtain ⟨h1, h2⟩ := refsV cs _ h
        obtain ⟨h3, h4⟩ := ih K h2
        refine ⟨fun k cs' hk => ?_, h4⟩
        simp only [look] at hk
        split at hk
        · cases hk; exact h1
        · exact h3 k cs' hk
      | lst sz ts wr =>
        obtain ⟨h3, h4⟩ := ih K h
        refine ⟨fun k cs' hk => ?_, h4⟩
        simp only [look] at hk
        split at hk
        · cases hk
        · exact h3 k cs' hk
  obtain ⟨r1, h3⟩ := refsV tm' _ h2
  obtain ⟨r2, h4⟩ := refsB own' _ h3
  refine ⟨_, h4, ?_⟩
  obtain ⟨S, ρ, hr⟩ := hg1
  have hlk : ∀ k b, look k own' = some b → look k own = some b ∧ k ∉ kk := fun k b hk => by
    rw [hlook] at hk
    split at hk
    · cases hk
    · exact ⟨hk, by assumption⟩
  have rv : ∀ (v : V) (u : Value), (∀ k ∈ vKeys v, k ∉ kk) → RelV S w ρ own v u → RelV S w ρ own' v u := by
    intro v u hv h
    have lk : ∀ k, k ∈ vKeys v → look k own' = look k own := fun k hk => by rw [hlook, if_neg (hv k hk)]
    cases v with
    | t x => exact h
    | dead => trivial
    | ptr k off => obtain ⟨b, ad, h1, h2, h3⟩ := h; exact ⟨b, ad, by rw [lk k (by simp [vKeys])]; exact h1, h2, h3⟩
    | eptr k i j => obtain ⟨sz, ts, wr, ad, h1, h2, h3⟩ := h; exact ⟨sz, ts, wr, ad, by rw [lk k (by simp [vKeys])]; exact h1, h2, h3⟩
    | vptr cs off => exact h
    | sl k off len => obtain ⟨sz, ts, wr, h1, h2⟩ := h; exact ⟨sz, ts, wr, by rw [lk k (by simp [vKeys])]; exact h1, h2⟩
    | mp k => exact h.elim
    | fn f x y => exact h.elim
  refine ⟨S, ρ, hr.keep, hr.base, hr.sub, hr.sup, hr.lt, fun k blk hk => ?_, fun k blk hk => hr.cl k blk (hlk k blk hk).1, fun k k' b b' hk hk' => hr.disj k k' b b' (hlk k b hk).1 (hlk k' b' hk').1, hr.len, fun i v u hv hu => ?_, hr.defers, hr.gl⟩
  · have h5 := hr.own k blk (hlk k blk hk).1
    cases blk with
    | cells cs =>
      obtain ⟨arr, e, g1, g2, g3⟩ := h5
      exact ⟨arr, e, g1, g2, fun i c v hc hv => rv c v (r2 k cs hk c (List.mem_of_getElem? hc)) (g3 i c v hc hv)⟩
    | lst sz ts wr => cases wr <;> exact h5
  · exact rv v u (r1 v (List.mem_of_getElem? hv)) (hr.tm i v u hv hu)

theorem wpx_sound (hΓ : EnvOk P Γ) : ∀ (c : Code) (m : MC) (st : St) (a : Act) (w : World) (K : Ex → St → Prop) (Q : Exit → Act → World → Prop), low P c = some m → wpx Γ m st K → Good Γ B st a w →
    (∀ e st' a' w', K e st' → Good Γ B st' a' w' → Q (exitOf e) a' w') → c.wp P Q a w := by
  intro c
  induction c with
  | skip => intro m st a w K Q hl h hg hQ; cases hl; exact wp_skip (hQ .normal st a w h hg)
  | region id ops d =>
    intro m st a w K Q hl h hg hQ
    simp only [low] at hl
    split at hl
    · rename_i ml h1
      split at hl
      · rename_i hd
        split at hl
        · rename_i hm
          obtain ⟨pairs, h2, rfl⟩ := map_some hl
          simp only [wpx_skip, wpx_reg, wpx_seq, wpx_cond, wpx_block, wpx_loop, wpx_exit, wpx_ret] at h
          obtain ⟨rs, ks, st', hc, hK⟩ := runD_chain ml st [] _ h
          simp at hK
          obtain ⟨h3, h4⟩ := natK_elim hK
          subst hd
          refine wp_region_any hm (any_order hΓ h1 hc h2 h3 (fun a' w' hg' => hQ .normal st' a' w' h4 hg') ops.size _ a _ (by simp) (fun j hj => by rw [replicate_getD] at hj; cases hj) ?_ ?_)
          · unfold unl
            exact Nat.le_trans (List.length_filter_le _ _) (by simp)
          · rw [aft_none _ _ _ _ _ (fun n => replicate_getD _ _)]
            obtain ⟨S, ρ, hr⟩ := hg
            exact ⟨S, ρ, hr.drawn _⟩
        · cases hl
      · rename_i hd
        cases hl
        have : d = false := by simpa using hd
        subst this
        exact wp_region_list (runOps_sound hΓ ops.toList ml st a w _ h1 h hg fun st' a' w' hK hg' => hQ .normal st' a' w' hK hg')
    · cases hl
  | seq x y ihx ihy =>
    intro m st a w K Q hl h hg hQ
    simp only [low] at hl
    split at hl
    · rename_i mx my h1 h2
      cases hl
      refine wp_seq (ihx mx st a w _ _ h1 h hg fun e st' a' w' hK hg' => ?_)
      cases e with
      | normal => exact ihy my st' a' w' K Q h2 hK hg' hQ
      | exit i => exact hQ (.exit i) st' a' w' hK hg'
      | ret => exact hQ .ret st' a' w' hK hg'
    · cases hl
  | cond c x y ihx ihy =>
    intro m st a w K Q hl h hg hQ
    simp only [low] at hl
    split at hl
    · rename_i c' mx my h0 h1 h2
      cases hl
      obtain ⟨tm, own⟩ := st
      obtain ⟨v, hv, h⟩ := evK_elim h
      obtain ⟨S, ρ, hr⟩ := hg
      have hc := ev_rel hr h0 hv
      split at h
      · have hb := RelT.bool_of hc
        rcases brK_elim h with ⟨e, h⟩ | ⟨e, h⟩
        · subst e
          exact wp_cond_true hb (ihx mx _ a w K Q h1 h ⟨S, ρ, hr⟩ hQ)
        · subst e
          exact wp_cond_false hb (ihy my _ a w K Q h2 h ⟨S, ρ, hr⟩ hQ)
      · exact h.elim
    · cases hl
  | block id b ih =>
    intro m st a w K Q hl h hg hQ
    obtain ⟨mb, h1, rfl⟩ := map_some hl
    refine wp_block (ih mb st a w _ _ h1 h hg fun e st' a' w' hK hg' => ?_)
    cases e with
    | normal => exact hQ .normal st' a' w' hK hg'
    | exit j =>
      show (if j = id then Q .normal a' w' else Q (.exit j) a' w')
      dsimp only at hK
      split at hK
      · rename_i e
        rw [Nat.beq_eq] at e
        rw [if_pos e]; exact hQ .normal st' a' w' hK hg'
      · rename_i e
        have : j ≠ id := by rw [← Bool.not_eq_true, Nat.beq_eq] at e; exact e
        rw [if_neg this]; exact hQ (.exit j) st' a' w' hK hg'
    | ret => exact hQ .ret st' a' w' hK hg'
  | loop b ih =>
    intro m st a w K Q hl h hg hQ
    obtain ⟨mb, h1, rfl⟩ := map_some hl
    obtain ⟨kt, kk, I, μ, h2, h3⟩ := loopK_elim h
    refine wp_loop_by (fun s a w => I s ∧ Good Γ B s a w) μ (s := st) ⟨h2, hg⟩ fun s a' w' hI => ?_
    refine ih mb s a' w' _ _ h1 (h3 s hI.1) hI.2 fun e s' a1 w1 hK hg' => ?_
    cases e with
    | normal =>
      obtain ⟨s2, ⟨g1, g2⟩, g3⟩ := killK_good hK hg'
      exact ⟨s2, ⟨g1, g3⟩, g2⟩
    | exit i => exact hQ (.exit i) s' a1 w1 hK hg'
    | ret => exact hQ .ret s' a1 w1 hK hg'
  | rangeFunc => intro m st a w K Q hl; simp [low] at hl
  | exit id => intro m st a w K Q hl h hg hQ; cases hl; exact wp_exit (hQ (.exit id) st a w h hg)
  | scope => intro m st a w K Q hl; simp [low] at hl
  | label => intro m st a w K Q hl; simp [low] at hl
  | goto => intro m st a w K Q hl; simp [low] at hl
  | ret => intro m st a w K Q hl h hg hQ; cases hl; exact wp_ret (hQ .ret st a w h hg)
  | refuse => intro m st a w K Q hl; simp [low] at hl

def resOf (tmps : Array Value) : ResultVar → Sem Value
  | .tmp t => pure (tmps.getD t undef)
  | .cell p t => do loadVar t (← asAddr (tmps.getD p undef))
theorem lowRes_run {S : Cells} {ρ : Nat → Info} {a : Act} {w : World} {tm : List V} {own : List (Nat × Blk)} (hr : Rel Γ B S ρ ⟨tm, own⟩ a w) : ∀ (rs : List ResultVar) (l : List Res) (K : List T → Prop), lowRes P rs = some l → resK ⟨tm, own⟩ l K →
    ∃ (xs : List T) (vs : List Value), K xs ∧ xs.length = vs.length ∧ (rs.mapM (resOf a.tmps)).run P w = .ok vs w ∧ ∀ (i : Nat) (c : T) (u : Value), xs[i]? = some c → vs[i]? = some u → RelT S w c u := by
  intro rs
  induction rs with
  | nil =>
    intro l K hl h
    simp [lowRes] at hl; subst hl
    exact ⟨[], [], h, rfl, by simp, fun i c u h => by simp at h⟩
  | cons r rs ih =>
    intro l K hl h
    simp only [lowRes] at hl
    split at hl
    · rename_i l' h1
      have fin : ∀ (x : T) (u : Value) (K' : List T → Prop), (resOf a.tmps r).run P w = .ok u w → RelT S w x u → resK ⟨tm, own⟩ l' (fun l => K (x :: l)) →
          ∃ (xs : List T) (vs : List Value), K xs ∧ xs.length = vs.length ∧ ((r :: rs).mapM (resOf a.tmps)).run P w = .ok vs w ∧ ∀ (i : Nat) (c : T) (u : Value), xs[i]? = some c → vs[i]? = some u → RelT S w c u := by
        intro x u K' hrun hrel hk
        obtain ⟨xs, vs, g1, g2, g3, g4⟩ := ih l' _ h1 hk
        refine ⟨x :: xs, u :: vs, g1, by simp [g2], by simp [List.mapM_cons, hrun, g3], fun i c u' hc hu => ?_⟩
        cases i with
        | zero => simp at hc hu; subst hc hu; exact hrel
        | succ i => exact g4 i c u' (by simpa using hc) (by simpa using hu)
      cases r with
      | tmp t =>
        cases hl
        simp only [resK] at h
        obtain ⟨v, hv, h⟩ := getK_elim h
        obtain ⟨x, hx, h⟩ := toTK_elim h
        subst hx
        exact fin x _ K (by simp [resOf]) (hr.ev hv) h
      | cell p ty =>
        dsimp only at hl
        split at hl
        · rename_i n hn
          cases hl
          simp only [resK] at h
          obtain ⟨v, hv, h⟩ := getK_elim h
          have hrel := hr.ev hv
          split at h
          · rename_i k off
            obtain ⟨b, hb, h⟩ := lkupK_elim h
            obtain ⟨b', ad, hb', e1, e2⟩ := hrel
            rw [hb] at hb'; cases hb'
            have hB := hr.own k b hb
            cases b with
            | cells cs =>
              obtain rfl := e2 rfl
              obtain ⟨arr, e, h1, h2, h3⟩ := hB
              rcases rdK_elim h with ⟨e4, c, hc', hK⟩ | ⟨m, ts, e4, hm, e5, _, hK⟩
              · obtain ⟨x, hx, hK⟩ := toTK_elim hK
                subst hx
                have hlt : off < arr.size := by
                  rw [h2]
                  rcases Nat.lt_or_ge off cs.length with h | h
                  · exact h
                  · rw [List.getElem?_eq_none h] at hc'; cases hc'
                have e6 : arr[off]? = some arr[off] := by simp [hlt]
                refine fin x arr[off] K ?_ (h3 off _ _ hc' e6) hK
                simp [resOf, e1, asAddr, (run_ld hn).1 e4 arr[off] (by rw [cell_row h1, e6])]
              · obtain ⟨x, hx, hK⟩ := toTK_elim hK
                cases hx
                have hl : ((arr.toList.drop off).take m).length = m := take_list (by simpa [h2] using hm)
                refine fin (.agg ts) (.agg ((arr.toList.drop off).take m).toArray) K ?_ (.agg ts _ ?_ fun j c u hcj hu => ?_) hK
                · simp [resOf, e1, asAddr, (run_ld hn).2 m e4 _ hl (fun j u hu => by
                    have g3 := (take_get hu).1
                    rw [cell_row h1]; simpa using g3)]
                · have := congrArg List.length e5
                  rw [take_list hm] at this
                  simp only [List.size_toArray, hl]; simpa using this
                · have g1 : ((cs.drop off).take m)[j]? = some (.t c) := by rw [e5]; simp [hcj]
                  have g2 := (take_get g1).1
                  have g3 := (take_get (by simpa using hu)).1
                  exact h3 _ _ _ g2 (by simpa using g3)
            | lst sz ts wr => exact h.elim
          · exact h.elim
        · cases hl
    · cases hl
theorem results_run {S : Cells} {ρ : Nat → Info} {a : Act} {w : World} {st : St} (hr : Rel Γ B S ρ ⟨st.tm, st.own⟩ a w) {fn : Func} {l : List Res} {K : T → Prop} (hl : lowRes P fn.results.toList = some l) (h : resK st l fun l => oneResK l K) :
    ∃ x v, K x ∧ (results fn a.tmps).run P w = .ok v w ∧ RelT S w x v := by
  obtain ⟨xs, vs, h1, h2, h3, h4⟩ := lowRes_run hr _ _ _ hl h
  have run : (results fn a.tmps).run P w = .ok (if h : vs.toArray.size = 1 then vs.toArray[0] else .tuple vs.toArray) w := by
    have e : (fn.results.mapM (resOf a.tmps)).run P w = .ok vs.toArray w := by
      rw [Array.mapM_eq_mapM_toList]
      simp [h3]
    have e2 : results fn a.tmps = (do
        let vs ← fn.results.mapM (resOf a.tmps)
        pure (if h : vs.size = 1 then vs[0] else .tuple vs)) := rfl
    rw [e2]
    simp [e]
  cases xs with
  | nil =>
    cases vs with
    | nil => exact ⟨_, _, h1, run, by simpa using RelT.tup [] #[] rfl fun i c u h => by simp at h⟩
    | cons v vs => simp at h2
  | cons x xs =>
    cases vs with
    | nil => simp at h2
    | cons v vs =>
      cases xs with
      | nil =>
        cases vs with
        | nil => exact ⟨x, v, h1, by simpa using run, h4 0 x v rfl rfl⟩
        | cons u vs => simp at h2
      | cons y xs =>
        cases vs with
        | nil => simp at h2
        | cons u vs =>
          refine ⟨_, _, h1, run, ?_⟩
          rw [dif_neg (by simp)]
          exact .tup _ _ (by simp at h2 ⊢; omega) fun i c u' hc hu => h4 i c u' hc (by simpa using hu)

theorem initK_elim : ∀ {args : List T} {n : Nat} {K : List V → Prop}, initK args n K → K (args.map .t ++ List.replicate n .dead) := by
  intro args
  induction args with
  | nil =>
    intro n
    simp only [initK, List.map_nil, List.nil_append]
    induction n with
    | zero => intro K h; exact h
    | succ n ih =>
      intro K h
      simp only [padK] at h
      have := ih h
      rw [List.replicate_succ]; exact this
  | cons x r ih => intro n K h; exact ih (K := fun l => K (.t x :: l)) h

/-- THE RUN OF A FUNCTION ON THE MACHINE IS WHAT IT ANSWERS. -/
theorem fn_ok (hΓ : EnvOk P Γ) {f : FuncId} {fn : Func} {m : MFn} {vs : List T} {x : T} (hf : P.funcs[f]? = some fn) (hl : lowFn P fn = some m) (h : fnK Γ m vs (· = x)) : FnOk P Γ.gl f vs x := by
  unfold lowFn at hl
  split at hl
  · rename_i c hb
    split at hl
    · rename_i mc rs h1 h2
      split at hl
      · cases hl
      · rename_i hname
        cases hl
        obtain ⟨hnp, h⟩ := lenK_elim h
        have h3 := initK_elim h
        refine ⟨⟨fn, hf, by simp [hb], hname⟩, fun S w args hlt hgl hsz hrel => ?_⟩
        refine calls_of_wp hf hb ?_
        let B : Base := ⟨w, S, fun _ _ => False⟩
        have hg : Good Γ B ⟨vs.map .t ++ List.replicate (fn.ntmps - (fn.params.size + fn.nfree)) .dead, []⟩ { tmps := args ++ Array.replicate (fn.ntmps - args.size) undef, defers := [] } w := by
          refine ⟨S, fun _ => ⟨0, .nilFunc⟩, .refl _ w, hlt, fun _ _ h => h, fun _ _ h => .inl h, hlt, fun k b hk => by simp [look] at hk, fun k b hk => by simp [look] at hk, fun k k' b b' hk => by simp [look] at hk, ?_, ?_, rfl, hgl⟩
          · simp [hsz, hnp]
          · intro i v u hv hu
            by_cases hi : i < vs.length
            · rw [List.getElem?_append_left (by simpa using hi)] at hv
              simp only [List.getElem?_map, Option.map_eq_some_iff] at hv
              obtain ⟨y, hy, rfl⟩ := hv
              rw [Array.getElem?_append_left (by omega)] at hu
              exact hrel i y u hy hu
            · rw [List.getElem?_append_right (by simpa using hi)] at hv
              rw [List.getElem?_replicate] at hv
              split at hv
              · cases hv; trivial
              · cases hv
        refine wpx_sound hΓ c mc _ _ w _ _ h1 h3 hg fun e st' a' w' hK hg' => ?_
        have fin : (resK st' rs fun l => oneResK l (· = x)) → a'.defers = [] ∧ ∃ v, (results fn a'.tmps).run P w' = .ok v w' ∧ ∃ v', Ending.returned v = Ending.returned v' ∧ RelT (fresh S w w') w' x v' ∧ Below w.heap.size w w' := by
          intro hK
          obtain ⟨S', ρ, hr⟩ := hg'
          obtain ⟨x', v, g1, g2, g3⟩ := results_run hr h2 hK
          subst g1
          refine ⟨hr.defers, v, g2, v, rfl, g3.mono (fun b o hbo => ?_) (fun _ _ _ => rfl), hr.keep.below⟩
          rcases hr.sup b o hbo with h | h | h
          · exact .inl h
          · exact h.elim
          · exact .inr ⟨h, hr.lt b o hbo⟩
        cases e with
        | normal => exact fin hK
        | ret => exact fin hK
        | exit i => exact hK.elim
    · cases hl
  · cases hl
end
end Go.Mx
