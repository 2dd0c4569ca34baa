/-
  A part of the machine, and of what is walked.
-/
import Derived.Test.YtdfjedkpclebgaaDoorP7
import Derived.Tactics
import Derived.Defers
import Derived.Recover
section
set_option linter.unusedVariables false
set_option linter.unusedSimpArgs false
namespace Go.Nx
open Go.RowKit

section
variable {P : Program} {Γ : Env} {B : Base}

theorem replicate_getD (n j : Nat) : (Array.replicate n false).getD j false = false := by
  by_cases h : j < n <;> simp [h]

def exitOf : Ex → Exit
  | .normal => .normal
  | .exit i => .exit i
  | .ret => .ret
  | .pan _ => .ret
def Ends (Γ : Env) (B : Base) (Q : Exit → Act → World → Prop) (e : Ex) (st : St) (a : Act) (w : World) : Prop := match e with
  | .pan y => ∀ S ρ u, Rel Γ B S ρ st a w → PanR S w y u → Q (.panic [{ v := u, recovered := false }]) a w
  | e => Q (exitOf e) a w

theorem wp_loop_by {α : Type} {c : Code} {Q : Exit → Act → World → Prop} (R : α → Act → World → Prop) (μ : α → Nat) {s : α} {a : Act} {w : World} (h0 : R s a w)
    (round : ∀ s a w, R s a w → c.wp P (Exit.then (fun a' w' => ∃ s', R s' a' w' ∧ μ s' < μ s) Q) a w) : (Code.loop c).wp P Q a w := by
  intro b k cs
  have all : ∀ n s a w, μ s ≤ n → R s a w → ∃ e a' w', Q e a' w' ∧ Arrives P (lone (b.at a (.code c :: .inLoop c :: k)) cs w) b k cs e a' w' := by
    intro n
    induction n with
    | zero =>
      intro s a w hn hR
      obtain ⟨e, a1, w1, hq, harr⟩ := round s a w hR b (.inLoop c :: k) cs
      cases e with
      | normal => obtain ⟨s', _, hlt⟩ := hq; omega
      | exit i => exact ⟨_, a1, w1, hq, .pass (x := .inLoop c) rfl (fun _ _ => .inl (by simp)) harr⟩
      | goto l => exact ⟨_, a1, w1, hq, .pass (x := .inLoop c) rfl (fun _ _ => .inl (by simp)) harr⟩
      | ret => exact ⟨_, a1, w1, hq, .pass (x := .inLoop c) rfl (fun _ _ => .inl (by simp)) harr⟩
      | panic ch => exact ⟨_, a1, w1, hq, .pass (x := .inLoop c) rfl (fun _ _ => .inl (by simp)) harr⟩
      | outgrown => exact ⟨_, a1, w1, hq, .pass (x := .inLoop c) rfl (fun _ _ => .inl (by simp)) harr⟩
    | succ n ih =>
      intro s a w hn hR
      obtain ⟨e, a1, w1, hq, harr⟩ := round s a w hR b (.inLoop c :: k) cs
      cases e with
      | normal =>
        obtain ⟨s', hR', hlt⟩ := hq
        obtain ⟨e2, a2, w2, hq2, harr2⟩ := ih s' a1 w1 (by omega) hR'
        exact ⟨e2, a2, w2, hq2, .of_steps (Steps.trans harr (.one step_inLoop)) harr2⟩
      | exit i => exact ⟨_, a1, w1, hq, .pass (x := .inLoop c) rfl (fun _ _ => .inl (by simp)) harr⟩
      | goto l => exact ⟨_, a1, w1, hq, .pass (x := .inLoop c) rfl (fun _ _ => .inl (by simp)) harr⟩
      | ret => exact ⟨_, a1, w1, hq, .pass (x := .inLoop c) rfl (fun _ _ => .inl (by simp)) harr⟩
      | panic ch => exact ⟨_, a1, w1, hq, .pass (x := .inLoop c) rfl (fun _ _ => .inl (by simp)) harr⟩
      | outgrown => exact ⟨_, a1, w1, hq, .pass (x := .inLoop c) rfl (fun _ _ => .inl (by simp)) harr⟩
  obtain ⟨e, a', w', hq, harr⟩ := all (μ s) s a w (Nat.le_refl _) h0
  exact ⟨e, a', w', hq, .of_steps (.one step_loop) harr⟩

theorem wpx_sound (hΓ : EnvOk P Γ) : ∀ (c : Code) (m : MC) (st : St) (a : Act) (w : World) (K : Ex → St → Prop) (Q : Exit → Act → World → Prop), low P c = some m → wpx Γ m st K → Good Γ B st a w →
    (∀ e st' a' w', K e st' → Good Γ B st' a' w' → Ends Γ B Q e st' a' w') → c.wp P Q a w := by
  intro c
  induction c with
  | skip => intro m st a w K Q hl h hg hQ; cases hl; exact wp_skip (hQ .normal st a w h hg)
  | region id ops d =>
    intro m st a w K Q hl h hg hQ
    simp only [low] at hl
    split at hl
    · rename_i ml h1
      split at hl
      · rename_i hd
        split at hl
        · rename_i hm
          obtain ⟨pairs, h2, rfl⟩ := map_some hl
          simp only [wpx_skip, wpx_reg, wpx_seq, wpx_cond, wpx_block, wpx_loop, wpx_exit, wpx_ret] at h
          subst hd
          have start : ∀ {rs : List Rec} {w : World}, Good Γ B st a w → Good Γ B (aft (fun j => (Array.replicate ops.size false).getD j false) 0 ml rs st) a { w with drawn := w.drawn + 1 } := fun hg => by
            rw [aft_none _ _ _ _ _ (fun n => replicate_getD _ _)]
            obtain ⟨S, ρ, hr⟩ := hg
            obtain ⟨tm, own⟩ := st
            exact ⟨S, ρ, hr.drawn _⟩
          have hun : unl ops.size (Array.replicate ops.size false) ≤ ops.size := by
            unfold unl
            exact Nat.le_trans (List.length_filter_le _ _) (by simp)
          split at h
          · obtain ⟨rs, ks, st', hc, hnh, hK⟩ := runD_chain ml st [] _ h
            simp at hK
            obtain ⟨h3, h4⟩ := natK_elim hK
            refine wp_region_any hm (any_order hΓ h1 hc h2 (chkPairs_spec h3) (fun _ a' w' hg' => hQ .normal st' a' w' h4 hg') (.inl ?_) ops.size _ a _ (by simp) (fun j hj => by rw [replicate_getD] at hj; cases hj) hun (fun n r _ _ => replicate_getD _ _) (start hg))
            exact hnh
          · obtain ⟨tm, own⟩ := st
            dsimp only at h
            rcases runE_chain ml ⟨tm, own⟩ [] _ _ h with ⟨rs, ks, st', hc, hnh, hK⟩ | ⟨rs, ks, st', p, y, hc, hf, hK⟩
            · simp at hK
              obtain ⟨h3, h4⟩ := natK_elim hK
              exact wp_region_any hm (any_order hΓ h1 hc h2 (chkPairs_spec h3) (fun _ a' w' hg' => hQ .normal st' a' w' h4 hg') (.inl hnh) ops.size _ a _ (by simp) (fun j hj => by rw [replicate_getD] at hj; cases hj) hun (fun n r _ _ => replicate_getD _ _) (start hg))
            · simp at hK
              obtain ⟨h3, h4⟩ := natK_elim hK
              obtain ⟨tm', h5, h6, h7⟩ := deadK_elim h4
              refine wp_region_any hm (any_order hΓ h1 hc h2 (fun q hq k b c hb hc' => ⟨quietL_spec h3 _ _ _ hb, quietL_spec h3 _ _ _ hc'⟩) (fun hnh => ?_) (.inr ⟨p, y, hf, fun X S' ρ' a' w' u hrel hu => ?_⟩) ops.size _ a _ (by simp) (fun j hj => by rw [replicate_getD] at hj; cases hj) hun (fun n r _ _ => replicate_getD _ _) (start hg))
              · obtain ⟨⟨m, r, k1, k2, k3, _⟩, _⟩ := hf
                rw [hnh p r k2] at k3; cases k3
              · have hrel' := fall_rel hc h3 h6 h7 hrel
                exact hQ (.pan y) ⟨tm', own⟩ a' w' h5 ⟨S', ρ', hrel'⟩ S' ρ' u hrel' hu
        · cases hl
      · rename_i hd
        cases hl
        have : d = false := by simpa using hd
        subst this
        exact wp_region_list (runOps_sound hΓ ops.toList ml st a w _ h1 h hg (fun st' a' w' hK hg' => hQ .normal st' a' w' hK hg') fun y st' a' w' S' ρ' u hK hr hu => hQ (.pan y) st' a' w' hK ⟨S', ρ', hr⟩ S' ρ' u hr hu)
    · cases hl
  | seq x y ihx ihy =>
    intro m st a w K Q hl h hg hQ
    simp only [low] at hl
    split at hl
    · rename_i mx my h1 h2
      cases hl
      refine wp_seq (ihx mx st a w _ _ h1 h hg fun e st' a' w' hK hg' => ?_)
      cases e with
      | normal => exact ihy my st' a' w' K Q h2 hK hg' hQ
      | exit i => exact hQ (.exit i) st' a' w' hK hg'
      | ret => exact hQ .ret st' a' w' hK hg'
      | pan y => exact hQ (.pan y) st' a' w' hK hg'
    · cases hl
  | cond c x y ihx ihy =>
    intro m st a w K Q hl h hg hQ
    simp only [low] at hl
    split at hl
    · rename_i c' mx my h0 h1 h2
      cases hl
      obtain ⟨tm, own⟩ := st
      obtain ⟨v, hv, h⟩ := evK_elim h
      obtain ⟨S, ρ, hr⟩ := hg
      have hc := ev_rel hr h0 hv
      split at h
      · have hb := RelT.bool_of hc.t_of
        (have h0 := brK_elim h; clear h); rcases h0 with ⟨e, h⟩ | ⟨e, h⟩
        · subst e
          exact wp_cond_true hb (ihx mx _ a w K Q h1 h ⟨S, ρ, hr⟩ hQ)
        · subst e
          exact wp_cond_false hb (ihy my _ a w K Q h2 h ⟨S, ρ, hr⟩ hQ)
      · exact h.elim
    · cases hl
  | block id b ih =>
    intro m st a w K Q hl h hg hQ
    obtain ⟨mb, h1, rfl⟩ := map_some hl
    refine wp_block (ih mb st a w _ _ h1 h hg fun e st' a' w' hK hg' => ?_)
    cases e with
    | normal => exact hQ .normal st' a' w' hK hg'
    | exit j =>
      show (if j = id then Q .normal a' w' else Q (.exit j) a' w')
      dsimp only at hK
      split at hK
      · rename_i e
        rw [Nat.beq_eq] at e
        rw [if_pos e]; exact hQ .normal st' a' w' hK hg'
      · rename_i e
        have : j ≠ id := by rw [← Bool.not_eq_true, Nat.beq_eq] at e; exact e
        rw [if_neg this]; exact hQ (.exit j) st' a' w' hK hg'
    | ret => exact hQ .ret st' a' w' hK hg'
    | pan y => exact hQ (.pan y) st' a' w' hK hg'
  | loop b ih =>
    intro m st a w K Q hl h hg hQ
    obtain ⟨mb, h1, rfl⟩ := map_some hl
    obtain ⟨n1, n2, I, μ, h2, h3⟩ := loopK_elim h
    obtain ⟨st1, g1, g2⟩ := nz_good h2 hg
    refine wp_loop_by (fun s a w => I s ∧ Good Γ B s a w) μ (s := st1) ⟨g1, g2⟩ fun s a' w' hI => ?_
    refine ih mb s a' w' _ _ h1 (h3 s hI.1) hI.2 fun e s' a1 w1 hK hg' => ?_
    cases e with
    | normal =>
      obtain ⟨s2, ⟨g1, g2⟩, g3⟩ := nz_good hK hg'
      exact ⟨s2, ⟨g1, g3⟩, g2⟩
    | exit i => exact hQ (.exit i) s' a1 w1 hK hg'
    | ret => exact hQ .ret s' a1 w1 hK hg'
    | pan y => exact hQ (.pan y) s' a1 w1 hK hg'
  | rangeFunc => intro m st a w K Q hl; simp [low] at hl
  | exit id => intro m st a w K Q hl h hg hQ; cases hl; exact wp_exit (hQ (.exit id) st a w h hg)
  | scope => intro m st a w K Q hl; simp [low] at hl
  | label => intro m st a w K Q hl; simp [low] at hl
  | goto => intro m st a w K Q hl; simp [low] at hl
  | ret => intro m st a w K Q hl h hg hQ; cases hl; exact wp_ret (hQ .ret st a w h hg)
  | refuse => intro m st a w K Q hl; simp [low] at hl


theorem rdK_elim {cs : List V} {off : Nat} {n : Option Nat} {K : V → Prop} (h : rdK cs off n K) :
    (n = none ∧ ∃ c, cs[off]? = some c ∧ K c) ∨ (∃ m, n = some m ∧ (m = 0 ∨ off + m ≤ cs.length) ∧ K (aggV ((cs.drop off).take m))) := by
  cases n with
  | none => exact .inl ⟨rfl, getK_elim h⟩
  | some m => obtain ⟨h1, h2⟩ := takeK_elim h; exact .inr ⟨m, rfl, h1, h2⟩

def resOf (tmps : Array Value) : ResultVar → Sem Value
  | .tmp t => pure (tmps.getD t undef)
  | .cell p t => do loadVar t (← asAddr (tmps.getD p undef))
theorem lstResK_elim {sz off m : Nat} {n : Option Nat} {ts : List T} {K : V → Prop} (h : lstResK sz off m n ts K) : ∃ nn, sz = 1 ∧ off = 0 ∧ m = 0 ∧ n = some nn ∧ ts.length = nn ∧ (∀ x ∈ ts, x.one = true) ∧ K (.t (.agg ts)) := by
  unfold lstResK at h
  split at h
  · obtain ⟨⟨g1, g2⟩, h⟩ := reqK_elim h
    exact ⟨_, rfl, rfl, rfl, rfl, g1, g2, h⟩
  · exact h.elim
theorem lowRes_run {S : Cells} {ρ : Infos} {a : Act} {w : World} {tm : List V} {own : Own} (hr : Rel Γ B S ρ ⟨tm, own⟩ a w) : ∀ (rs : List ResultVar) (l : List Res) (K : List V → Prop), lowRes P rs = some l → resK ⟨tm, own⟩ l K →
    ∃ (xs : List V) (vs : List Value), K xs ∧ xs.length = vs.length ∧ (rs.mapM (resOf a.tmps)).run P w = .ok vs w ∧ ∀ (i : Nat) (c : V) (u : Value), xs[i]? = some c → vs[i]? = some u → RelV S w ρ own c u := by
  intro rs
  induction rs with
  | nil =>
    intro l K hl h
    simp [lowRes] at hl; subst hl
    exact ⟨[], [], h, rfl, by simp, fun i c u h => by simp at h⟩
  | cons r rs ih =>
    intro l K hl h
    simp only [lowRes] at hl
    split at hl
    · rename_i l' h1
      have fin : ∀ (x : V) (u : Value), (resOf a.tmps r).run P w = .ok u w → RelV S w ρ own x u → resK ⟨tm, own⟩ l' (fun l => K (x :: l)) →
          ∃ (xs : List V) (vs : List Value), K xs ∧ xs.length = vs.length ∧ ((r :: rs).mapM (resOf a.tmps)).run P w = .ok vs w ∧ ∀ (i : Nat) (c : V) (u : Value), xs[i]? = some c → vs[i]? = some u → RelV S w ρ own c u := by
        intro x u hrun hrel hk
        obtain ⟨xs, vs, g1, g2, g3, g4⟩ := ih l' _ h1 hk
        refine ⟨x :: xs, u :: vs, g1, by simp [g2], by simp [List.mapM_cons, hrun, g3], fun i c u' hc hu => ?_⟩
        cases i with
        | zero => simp at hc hu; subst hc hu; exact hrel
        | succ i => exact g4 i c u' (by simpa using hc) (by simpa using hu)
      cases r with
      | tmp t =>
        cases hl
        simp only [resK] at h
        obtain ⟨v, hv, h⟩ := getK_elim h
        exact fin v _ (by simp [resOf]) (hr.ev hv) h
      | cell p ty =>
        dsimp only at hl
        split at hl
        · rename_i n hn
          cases hl
          simp only [resK] at h
          obtain ⟨v, hv, h⟩ := getK_elim h
          have hrel := hr.ev hv
          split at h
          · rename_i k off
            obtain ⟨b, hb, h⟩ := lkupK_elim h
            have e1 : a.tmps.getD p undef = .pointer (some ⟨(ρ k).blk, off, none⟩) := by
              generalize a.tmps.getD p undef = u at hrel
              cases hrel; rfl
            have hB := hr.mem.blk k b hb
            split at h
            · rename_i cs
              obtain ⟨arr, e, h1, h2, h3⟩ := hB
              rcases rdK_elim h with ⟨e4, c, hc', hK⟩ | ⟨m, e4, hm, hK⟩
              · have hlt : off < arr.size := by
                  rw [h2]
                  rcases Nat.lt_or_ge off cs.length with h | h
                  · exact h
                  · rw [List.getElem?_eq_none h] at hc'; cases hc'
                have e6 : arr[off]? = some arr[off] := by simp [hlt]
                refine fin c arr[off] ?_ (h3 off _ _ hc' e6) hK
                simp [resOf, e1, asAddr, (run_ld hn).1 e4 arr[off] (by rw [cell_row h1, e6])]
              · have hl : ((arr.toList.drop off).take m).length = m := take_list (by simpa [h2] using hm)
                refine fin _ (.agg ((arr.toList.drop off).take m).toArray) ?_ (rel_aggV ?_ fun j c u hcj hu => ?_) hK
                · simp [resOf, e1, asAddr, (run_ld hn).2 m e4 _ hl (fun j u hu => by
                    have g3 := (take_get hu).1
                    rw [cell_row h1]; simpa using g3)]
                · rw [take_list hm]
                  simp only [List.size_toArray, hl]
                · have g2 := (take_get hcj).1
                  have g3 := (take_get (by simpa using hu)).1
                  exact h3 _ _ _ g2 (by simpa using g3)
            · rename_i sz ts m
              obtain ⟨nn, rfl, rfl, rfl, rfl, g1, g2, h⟩ := lstResK_elim h
              · have key : ∃ arr : Nat → Value, ∀ (j : Nat) (c : T), ts[j]? = some c → w.cell? ⟨(ρ k).blk, 0 + j, none⟩ = some (arr j) ∧ RelT S w c (arr j) := by
                  by_cases hne : ts = []
                  · exact ⟨fun _ => undef, fun j c hcj => by subst hne; simp at hcj⟩
                  · obtain ⟨C, arr, e, h1, h2, h3, h4, h5, h6⟩ := lst0_cells hr hb hne
                    refine ⟨fun j => (arr[j]?).getD undef, fun j c hcj => ?_⟩
                    obtain ⟨z, hz, hr'⟩ := lst_cells g2 h6 j c hcj
                    rw [cell_row h3, Nat.zero_add]
                    simp only [hz, Option.getD_some]
                    exact ⟨trivial, hr'⟩
                obtain ⟨arr, harr⟩ := key
                have hl : ((List.range nn).map arr).length = nn := by simp
                refine fin _ (.agg ((List.range nn).map arr).toArray) ?_ (.t _ _ (.agg ts _ (by simp [g1]) fun j c u hcj hu => ?_)) h
                · simp [resOf, e1, asAddr, (run_ld hn).2 nn rfl _ hl fun j u hu => by
                    have hj : j < nn := by
                      rcases Nat.lt_or_ge j nn with h | h
                      · exact h
                      · simp [h] at hu
                    have := (harr j ts[j] (by simp [g1, hj])).1
                    simp [hj] at hu; subst hu
                    exact this]
                · obtain ⟨_, hr'⟩ := harr j c hcj
                  have hj : j < nn := by
                    rw [← g1]
                    rcases Nat.lt_or_ge j ts.length with h | h
                    · exact h
                    · rw [List.getElem?_eq_none h] at hcj; cases hcj
                  simp [hj] at hu; subst hu; exact hr'
            · exact h.elim
          · exact h.elim
        · cases hl
    · cases hl
theorem results_run {S : Cells} {ρ : Infos} {a : Act} {w : World} {st : St} (hr : Rel Γ B S ρ ⟨st.tm, st.own⟩ a w) {fn : Func} {l : List Res} {K : List V → Prop} (hl : lowRes P fn.results.toList = some l) (h : resK st l K) :
    ∃ x v, K x ∧ (results fn a.tmps).run P w = .ok v w ∧ RelV S w ρ st.own (oneV x) v := by
  obtain ⟨xs, vs, h1, h2, h3, h4⟩ := lowRes_run hr _ _ _ hl h
  have run : (results fn a.tmps).run P w = .ok (if h : vs.toArray.size = 1 then vs.toArray[0] else .tuple vs.toArray) w := by
    have e : (fn.results.mapM (resOf a.tmps)).run P w = .ok vs.toArray w := by
      rw [Array.mapM_eq_mapM_toList]
      simp [h3]
    have e2 : results fn a.tmps = (do
        let vs ← fn.results.mapM (resOf a.tmps)
        pure (if h : vs.size = 1 then vs[0] else .tuple vs)) := rfl
    rw [e2]
    simp [e]
  refine ⟨xs, _, h1, run, ?_⟩
  cases xs with
  | nil =>
    cases vs with
    | nil => exact .t _ _ (by simpa using RelT.tup [] #[] rfl fun i c u h => by simp at h)
    | cons v vs => simp at h2
  | cons x xs =>
    cases vs with
    | nil => simp at h2
    | cons v vs =>
      cases xs with
      | nil =>
        cases vs with
        | nil => exact h4 0 x v rfl rfl
        | cons u vs => simp at h2
      | cons y xs =>
        cases vs with
        | nil => simp at h2
        | cons u vs =>
          rw [dif_neg (by simp)]
          exact rel_tupV (by simp at h2 ⊢; omega) fun i c u' hc hu => h4 i c u' hc (by simpa using hu)

theorem initK_elim : ∀ {args : List V} {n : Nat} {K : List V → Prop}, initK args n K → K (args ++ List.replicate n .dead) := by
  intro args
  induction args with
  | nil =>
    intro n
    simp only [initK, List.nil_append]
    induction n with
    | zero => intro K h; exact h
    | succ n ih =>
      intro K h
      simp only [padK] at h
      have := ih h
      rw [List.replicate_succ]; exact this
  | cons x r ih => intro n K h; exact ih (K := fun l => K (x :: l)) h

def endP (e : Ex) (A : Prop) (X : Option T → Prop) : Prop := match e with
  | .normal => A
  | .ret => A
  | .exit _ => False
  | .pan y => X y
theorem body_runP (hΓ : EnvOk P Γ) {f : FuncId} {fn : Func} {m : MFn} {args : List V} {vals : Array Value} {S : Cells} {ρ : Infos} {own : Own} {w : World} {K : List V → St → Prop} {X : Option T → St → Prop} (hf : P.funcs[f]? = some fn) (hl : lowFn P fn = some m)
    (hmem : Mem Γ.gl S w ρ own) (hprot : ∀ k b, look k own = some b → k ∈ Γ.prot) (hsz : vals.size = args.length) (hnp : args.length = m.np) (hrel : ∀ (i : Nat) (v : V) (u : Value), args[i]? = some v → vals[i]? = some u → RelV S w ρ own v u)
    (h : wpx Γ m.body ⟨args ++ List.replicate (m.nt - m.np) .dead, own⟩ fun e st => endP e (resK st m.res fun l => K l st) fun y => X y st) :
    Enter P f ∧ Calls P f vals w fun e w' => (∃ u l st' S' ρ' a', e = .returned u ∧ K l st' ∧ Rel Γ ⟨w, S, ρ, own, []⟩ S' ρ' st' a' w' ∧ RelV S' w' ρ' st'.own (oneV l) u) ∨
      (∃ y u st' S' ρ' a', e = .panicked [{ v := u, recovered := false }] ∧ X y st' ∧ Rel Γ ⟨w, S, ρ, own, []⟩ S' ρ' st' a' w' ∧ PanR S' w' y u) := by
  unfold lowFn at hl
  split at hl
  · rename_i c hb
    split at hl
    · rename_i mc rs h1 h2
      split at hl
      · cases hl
      · rename_i hname
        cases hl
        refine ⟨⟨fn, hf, by simp [hb], hname⟩, ?_⟩
        refine calls_of_wp hf hb ?_
        have hg : Good Γ ⟨w, S, ρ, own, []⟩ ⟨args ++ List.replicate (fn.ntmps - (fn.params.size + fn.nfree)) .dead, own⟩ { tmps := vals ++ Array.replicate (fn.ntmps - vals.size) undef, defers := [] } w := by
          refine ⟨S, ρ, hmem, .refl _ w, hmem.lt, fun _ _ h => h, fun _ _ h => .inl h, fun _ _ h => .inl h, .refl _, fun _ _ _ => rfl, hprot, ?_, ?_, rfl⟩
          · simp only [Array.size_append, Array.size_replicate, List.length_append, List.length_replicate, hsz]
            rw [hnp]
          · intro i v u hv hu
            by_cases hi : i < args.length
            · rw [List.getElem?_append_left hi] at hv
              rw [Array.getElem?_append_left (by omega)] at hu
              exact hrel i v u hv hu
            · rw [List.getElem?_append_right (by omega)] at hv
              rw [List.getElem?_replicate] at hv
              split at hv
              · cases hv; exact .dead u
              · cases hv
        refine wpx_sound hΓ c mc _ _ w _ _ h1 h hg fun e st' a' w' hK hg' => ?_
        have fin : (resK st' rs fun l => K l st') → a'.defers = [] ∧ ∃ v, (results fn a'.tmps).run P w' = .ok v w' ∧ ((∃ u l st' S' ρ' a', Ending.returned v = Ending.returned u ∧ K l st' ∧ Rel Γ ⟨w, S, ρ, own, []⟩ S' ρ' st' a' w' ∧ RelV S' w' ρ' st'.own (oneV l) u) ∨
            (∃ y u st' S' ρ' a', Ending.returned v = .panicked [{ v := u, recovered := false }] ∧ X y st' ∧ Rel Γ ⟨w, S, ρ, own, []⟩ S' ρ' st' a' w' ∧ PanR S' w' y u)) := by
          intro hK
          obtain ⟨S', ρ', hr⟩ := hg'
          obtain ⟨l, v, g1, g2, g3⟩ := results_run hr h2 hK
          exact ⟨hr.defers, v, g2, .inl ⟨v, l, st', S', ρ', a', rfl, g1, hr, g3⟩⟩
        cases e with
        | normal => exact fin hK
        | ret => exact fin hK
        | exit i => exact hK.elim
        | pan y => exact fun S' ρ' u hr hu => ⟨hr.defers, .inr ⟨y, u, st', S', ρ', a', rfl, hK, hr, hu⟩⟩
    · cases hl
  · cases hl
theorem body_run (hΓ : EnvOk P Γ) {f : FuncId} {fn : Func} {m : MFn} {args : List V} {vals : Array Value} {S : Cells} {ρ : Infos} {own : Own} {w : World} {K : List V → St → Prop} (hf : P.funcs[f]? = some fn) (hl : lowFn P fn = some m)
    (hmem : Mem Γ.gl S w ρ own) (hprot : ∀ k b, look k own = some b → k ∈ Γ.prot) (hsz : vals.size = args.length) (hnp : args.length = m.np) (hrel : ∀ (i : Nat) (v : V) (u : Value), args[i]? = some v → vals[i]? = some u → RelV S w ρ own v u)
    (h : wpx Γ m.body ⟨args ++ List.replicate (m.nt - m.np) .dead, own⟩ fun e st => endK e (resK st m.res fun l => K l st)) :
    Enter P f ∧ Calls P f vals w fun e w' => ∃ u l st' S' ρ' a', e = .returned u ∧ K l st' ∧ Rel Γ ⟨w, S, ρ, own, []⟩ S' ρ' st' a' w' ∧ RelV S' w' ρ' st'.own (oneV l) u := by
  have e : (fun (e : Ex) (st : St) => endK e (resK st m.res fun l => K l st)) = fun e st => endP e (resK st m.res fun l => K l st) fun y => False := by
    funext e st; cases e <;> rfl
  rw [e] at h
  obtain ⟨h1, h2⟩ := body_runP hΓ (X := fun _ _ => False) hf hl hmem hprot hsz hnp hrel h
  refine ⟨h1, Calls.mono h2 fun e w' he => ?_⟩
  rcases he with he | ⟨_, _, _, _, _, _, _, hx, _⟩
  · exact he
  · exact hx.elim

theorem mem_nil {gl : Gl} {S : Cells} {w : World} (hlt : ∀ b o, S b o → b < w.heap.size) (hgl : GlOk gl S w) (ρ : Infos) : Mem gl S w ρ [] :=
  ⟨hlt, fun k b hk => by simp [look] at hk, fun k b hk => by simp [look] at hk, fun k k' b b' hk => by simp [look] at hk, hgl⟩
theorem base_nil {w : World} {S : Cells} {ρ : Infos} {b o : Nat} : ¬ (Base.C ⟨w, S, ρ, [], []⟩) b o := by
  rintro ⟨k, blk, h, _⟩
  simp [look] at h
theorem below_of {w w' : World} {S S' : Cells} {ρ ρ' : Infos} {st : St} {a : Act} (hr : Rel Γ ⟨w, S, ρ, [], []⟩ S' ρ' st a w') : Below w.heap.size w w' :=
  Keep.below (hr.keep.mono fun b o _ h => (base_nil h).elim)
theorem sup_nil {w w' : World} {S S' : Cells} {ρ ρ' : Infos} {st : St} {a : Act} (hr : Rel Γ ⟨w, S, ρ, [], []⟩ S' ρ' st a w') {b o : Nat} (h : S' b o) : S b o ∨ (w.heap.size ≤ b ∧ b < w'.heap.size) := by
  rcases hr.sup b o h with h' | h' | h'
  · exact .inl h'
  · exact (base_nil h').elim
  · exact .inr ⟨h', hr.mem.lt b o h⟩

theorem rel_ts {S : Cells} {w : World} {ρ : Infos} {vs : List T} {args : Array Value} (h : ∀ (i : Nat) (c : T) (u : Value), vs[i]? = some c → args[i]? = some u → RelT S w c u) (i : Nat) (v : V) (u : Value) (hv : (vs.map V.t)[i]? = some v) (hu : args[i]? = some u) : RelV S w ρ [] v u :=
  RelV.of_ts h i v u hv hu

theorem fn_ok (hΓ : EnvOk P Γ) {f : FuncId} {fn : Func} {m : MFn} {vs : List T} {x : T} (hf : P.funcs[f]? = some fn) (hl : lowFn P fn = some m) (h : fnK Γ m vs (· = x)) : FnOk P Γ.gl f vs x := by
  obtain ⟨hnp, h⟩ := lenK_elim h
  have h3 := initK_elim (tagK_elim h)
  have main := fun (S : Cells) (w : World) (args : Array Value) (hlt : ∀ b o, S b o → b < w.heap.size) (hgl : GlOk Γ.gl S w) (hsz : args.size = vs.length) (hrel : ∀ (i : Nat) (c : T) (u : Value), vs[i]? = some c → args[i]? = some u → RelT S w c u) =>
    body_run (ρ := fun _ => ⟨0, .nilFunc⟩) (vals := args) (K := fun l st => run false (toTP 8 (oneV l) fun x => .ret (.t x)) st.own [] fun v _ _ => match v with
      | .t y => y = x
      | _ => False) hΓ hf hl (mem_nil hlt hgl _) (fun k b hk => by simp [look] at hk) (by simpa using hsz) (by simpa using hnp) (rel_ts hrel) h3
  refine ⟨?_, fun S w args hlt hgl hsz hrel => ?_⟩
  · unfold lowFn at hl
    split at hl
    · rename_i c hb
      split at hl
      · split at hl
        · cases hl
        · rename_i hname; exact ⟨fn, hf, by simp [hb], hname⟩
      · cases hl
    · cases hl
  · refine Calls.mono (main S w args hlt hgl hsz hrel).2 fun e w' he => ?_
    obtain ⟨u, l, st', S', ρ', a', rfl, hK, hr, hv⟩ := he
    obtain ⟨tm', own'⟩ := st'
    obtain ⟨y, own2, S2, log2, g1, g2, g3⟩ := toT_ok 8 _ _ _ _ _ _ _ _ _ _ _ _ _ _ hr hv hK
    have g1 : y = x := g1
    subst g1
    refine ⟨u, rfl, g3.mono (fun b o hb => sup_nil g2.rel hb) (fun _ _ _ => rfl), below_of hr⟩

theorem cut_lst {B : Base} {S : Cells} {ρ : Infos} {tm : List V} {own : Own} {a : Act} {w : World} (hr : Rel Γ B S ρ ⟨tm, own⟩ a w) {k k' sz l : Nat} {ts : List T} {v : Value} (hl : look k own = some (.lst sz ts 0)) (hf : look k' own = none) (hs : SlOk (ρ k).rv (.lst sz ts 0) 0 (some l) v) :
    ∃ ρ' : Infos, Rel Γ B S ρ' ⟨tm, (k', .lst sz (subL ts 0 (some l)) 0) :: upd k .gone own⟩ a w ∧ SlOk (ρ' k').rv (.lst sz (subL ts 0 (some l)) 0) 0 none v := by
  obtain ⟨ad0, c0, e0, hnc, _, hle0, hget, _, A, C, q4, q5, q6, q7⟩ := sl_sub hs
  obtain ⟨hflt, A', C', k1, k2, k3⟩ := hr.mem.blk k _ hl
  rw [q4] at k1
  simp only [Value.slice.injEq] at k1
  obtain ⟨rfl, _, rfl⟩ := k1
  have hsub : ∀ x ∈ subL ts 0 (some l), x ∈ ts := fun x hx => List.mem_of_mem_take hx
  have hflat : ∀ x ∈ subL ts 0 (some l), Flat sz x := fun x hx => hflt x (hsub x hx)
  have hgone : ∀ b o, ¬ claim (ρ k) Blk.gone b o := fun b o h => h
  generalize hys : subL ts 0 (some l) = ys at *
  have hS : ∀ b o, claim (ρ k) (.lst sz ts 0) b o → ¬ S b o := fun b o hc hs => (hr.mem.cl k _ hl b o hc).2 hs
  by_cases hC : c0 = 0
  · subst hC
    have hy : ys = [] := List.eq_nil_of_length_eq_zero (by omega)
    subst hy
    obtain ⟨ρ', h1, h2, h3⟩ := hr.hand (k := k) (k' := k') (blk2 := .gone) (blk' := .lst sz [] 0) (w' := w) (S' := S) ⟨0, v⟩ hl hf (Ble.gone _) (.refl _ w) (fun _ _ h => h) (fun _ _ h => .inl h) hgone
      (fun b o hc => by
        obtain ⟨_, _, _, c, e, hne⟩ := hc
        rw [e0] at e
        simp only [Value.slice.injEq] at e
        exact (hne e.2.2.symm).elim)
      (fun _ _ _ => trivial) (fun ρ' e1 e2 => ⟨fun x hx => by simp at hx, ad0, 0, by rw [e1]; exact e0, by simp, .inl rfl⟩)
    refine ⟨ρ', h3, ?_⟩
    rw [h1]
    exact ⟨ad0, 0, 0, e0, Nat.le_refl _, Nat.zero_le _, fun _ => rfl, (fun l hl => by cases hl), ad0, 0, e0, fun _ => rfl, by omega, fun h => by omega⟩
  · obtain ⟨b', o', p1, p2⟩ := q7 (by omega)
    subst p1
    rcases k3 with k3 | ⟨k3, arr, et, k4, k5, k6⟩
    · omega
    · simp only [Option.some.injEq, Addr.mk.injEq] at k3
      obtain ⟨rfl, rfl, _⟩ := k3
      rw [Nat.zero_mul, Nat.add_zero] at p2
      subst p2
      have hcl : claim (ρ k) (.lst sz ts 0) = fun b _ => b = (ρ k).blk := by
        funext b o
        apply propext
        exact ⟨fun h => h.1, fun h => ⟨h, _, _, _, q4, by omega⟩⟩
      have hcs : c0 * sz ≤ C * sz := Nat.mul_le_mul_right _ (by omega)
      obtain ⟨ρ', h1, h2, h3⟩ := hr.hand (k := k) (k' := k') (blk2 := .gone) (blk' := .lst sz ys 0) (w' := w) (S' := S) ⟨(ρ k).blk, v⟩ hl hf (Ble.gone _) (.refl _ w) (fun _ _ h => h) (fun _ _ h => .inl h) hgone
        (fun b o hc => by
          have : claim (ρ k) (.lst sz ts 0) b o := by rw [hcl]; exact hc.1
          exact ⟨.inl this, hS b o this⟩)
        (fun _ _ _ => trivial)
        (fun ρ' e1 e2 => by
          refine ⟨hflat, _, c0, by rw [e1]; exact e0, hnc, .inr ⟨by rw [e1], arr, et, by rw [e1]; exact k4, by omega, fun q x j c hq hc => ?_⟩⟩
          have hlt : q < ys.length := by
            rcases Nat.lt_or_ge q ys.length with h | h
            · exact h
            · rw [List.getElem?_eq_none h] at hq; cases hq
          have := hget q hlt
          rw [Nat.zero_add] at this
          exact k6 q x j c (by rw [← this]; exact hq) hc)
      refine ⟨ρ', h3, ?_⟩
      rw [h1]
      exact ⟨_, ys.length, c0, e0, hnc, Nat.zero_le _, fun _ => rfl, (fun l hl => by cases hl), _, c0, e0, fun _ => rfl, by omega, fun h => ⟨_, _, rfl, by simp⟩⟩
theorem fresh_key (own : Own) : ∃ k, look k own = none := by
  have key : ∀ (own : Own) (n : Nat), (own.map (·.1)).sum < n → look n own = none := by
    intro own
    induction own with
    | nil => intro n _; rfl
    | cons p r ih =>
      intro n hn
      simp only [List.map_cons, List.sum_cons] at hn
      simp only [look]
      rw [if_neg (by omega)]
      exact ih n (by omega)
  exact ⟨_, key own _ (Nat.lt_succ_self _)⟩
def fnG (Γ : Env) (m : MFn) (sz : Nat) (args : List T) (K : List T → Prop) : Prop :=
  lenK args m.np (tagK args fun vs => initK vs (m.nt - m.np) fun tm => wpx Γ m.body ⟨tm, []⟩ fun e st => endK e (resK st m.res fun l => match oneV l with
    | .sl k off len => match off, len with
      | 0, some l => lkupK k st.own fun b => match b with
        | .lst sz' ts m => match m with
          | 0 => natK (Nat.beq sz' sz) (K (subL ts 0 (some l)))
          | _ => False
        | _ => False
      | 0, none => lkupK k st.own fun b => match b with
        | .lst sz' ts m => match m with
          | 0 => natK (Nat.beq sz' sz) (K ts)
          | 1 => natK (Nat.beq sz' sz) (K ts)
          | _ => False
        | _ => False
      | _, _ => False
    | .cl sz' xs => natK (Nat.beq sz' sz) (K xs)
    | .t x => match x with
      | .nils => K []
      | _ => False
    | _ => False))
theorem fnG_ok (hΓ : EnvOk P Γ) {f : FuncId} {fn : Func} {m : MFn} {vs : List T} {sz : Nat} {xs : List T} (hf : P.funcs[f]? = some fn) (hl : lowFn P fn = some m) (h : fnG Γ m sz vs (· = xs)) : FnGl P Γ.gl f vs sz xs := by
  obtain ⟨hnp, h⟩ := lenK_elim h
  have h3 := initK_elim (tagK_elim h)
  have main := fun (S : Cells) (w : World) (args : Array Value) (hlt : ∀ b o, S b o → b < w.heap.size) (hgl : GlOk Γ.gl S w) (hsz : args.size = vs.length) (hrel : ∀ (i : Nat) (c : T) (u : Value), vs[i]? = some c → args[i]? = some u → RelT S w c u) =>
    body_run (ρ := fun _ => ⟨0, .nilFunc⟩) (vals := args) (K := fun l st => match oneV l with
    | .sl k off len => match off, len with
      | 0, some l => lkupK k st.own fun b => match b with
        | .lst sz' ts m => match m with
          | 0 => natK (Nat.beq sz' sz) (subL ts 0 (some l) = xs)
          | _ => False
        | _ => False
      | 0, none => lkupK k st.own fun b => match b with
        | .lst sz' ts m => match m with
          | 0 => natK (Nat.beq sz' sz) (ts = xs)
          | 1 => natK (Nat.beq sz' sz) (ts = xs)
          | _ => False
        | _ => False
      | _, _ => False
    | .cl sz' ys => natK (Nat.beq sz' sz) (ys = xs)
    | .t x => match x with
      | .nils => [] = xs
      | _ => False
    | _ => False) hΓ hf hl (mem_nil hlt hgl _) (fun k b hk => by simp [look] at hk) (by simpa using hsz) (by simpa using hnp) (rel_ts hrel) h3
  refine ⟨?_, fun S w args hlt hgl hsz hrel => ?_⟩
  · unfold lowFn at hl
    split at hl
    · rename_i c hb
      split at hl
      · split at hl
        · cases hl
        · rename_i hname; exact ⟨fn, hf, by simp [hb], hname⟩
      · cases hl
    · cases hl
  · refine Calls.mono (main S w args hlt hgl hsz hrel).2 fun e w' he => ?_
    obtain ⟨u, l, st', S', ρ', a', rfl, hK, hr, hv⟩ := he
    obtain ⟨tm', own'⟩ := st'
    refine ⟨u, rfl, below_of hr, ?_⟩
    -- a list that is settled but for what is behind its end
    have lst : ∀ (ρ' : Infos) (S' : Cells) (own' : Own) (k : Nat), Rel Γ ⟨w, S, fun _ => ⟨0, .nilFunc⟩, [], []⟩ S' ρ' ⟨tm', own'⟩ a' w' → look k own' = some (.lst sz xs 1) → SlOk (ρ' k).rv (.lst sz xs 1) 0 none u →
        ∃ S' : Cells, (∀ b o, S b o → S' b o) ∧ (∀ b o, S' b o → S b o ∨ (w.heap.size ≤ b ∧ b < w'.heap.size)) ∧ RelT S' w' (.list sz xs) u ∧
          (∀ b o sp n cap, u = .slice (some ⟨b, o, sp⟩) n cap → cap = n ∨ sp = none ∧ (∃ arr e, w'.heap[b]? = some (.cells arr e (0, 0)) ∧ o + cap * sz ≤ arr.size) ∧ ∀ j, o + n * sz ≤ j → j < o + cap * sz → w.heap.size ≤ b ∧ ¬ S' b j) ∧
          (∀ n cap, u = .slice none n cap → cap = 0) := by
      intro ρ' S' own' k hr hk hs
      obtain ⟨b1, b2, b3⟩ := hr.mem.blk k _ hk
      have hT := sl_list b1 hs
      obtain ⟨ad, n, c, rfl, hnc, h0, h1, h2, A, C, e1, e2, e3, e4⟩ := hs
      have hn : n = xs.length := by simpa using h1 rfl
      have hc : c = C := by simpa using e2 rfl
      subst hc
      refine ⟨S', hr.sub, fun b o hb => sup_nil hr hb, by simpa [subL] using hT, fun b o sp n' cap hu => ?_, fun n' cap hu => ?_⟩
      · simp only [Value.slice.injEq] at hu
        obtain ⟨rfl, rfl, rfl⟩ := hu
        by_cases hc0 : c = 0
        · left; omega
        · obtain ⟨b', o', hA, ha⟩ := e4 (by omega)
          simp only [Option.some.injEq, Addr.mk.injEq, Nat.zero_mul, Nat.add_zero] at ha
          obtain ⟨rfl, rfl, rfl⟩ := ha
          subst hA
          rcases b2 b o none _ _ e1 with h | ⟨_, h⟩
          · left; omega
          · refine .inr ⟨rfl, h, fun j g1 g2 => ?_⟩
            have hcl : claim (ρ' k) (.lst sz xs 1) b j := ⟨o, none, xs.length, c, e1, by rw [← hn]; exact g1, g2⟩
            refine ⟨?_, (hr.mem.cl k _ hk b j hcl).2⟩
            rcases hr.clB b j ⟨k, _, hk, hcl⟩ with h | h
            · exact (base_nil h).elim
            · exact h
      · simp only [Value.slice.injEq] at hu
        obtain ⟨rfl, rfl, rfl⟩ := hu
        by_cases hc0 : c = 0
        · exact hc0
        · obtain ⟨b', o', hA, ha⟩ := e4 (by omega)
          cases ha
    split at hK
    · rename_i k off len heq
      rw [heq] at hv
      split at hK
      · obtain ⟨b, hb, hK⟩ := lkupK_elim hK
        cases hv with
        | sl _ _ _ b' hb' _ hs =>
        rw [hb] at hb'; cases hb'
        split at hK
        · rename_i sz' ts m
          split at hK
          · obtain ⟨e, hK2⟩ := natK_elim hK
            have e := Nat.eq_of_beq_eq_true e
            subst e
            obtain ⟨k', hf⟩ := fresh_key own'
            obtain ⟨ρ2, hr2, hs2⟩ := cut_lst hr hb hf hs
            have hK : subL ts 0 (some _) = xs := hK2
            rw [hK] at hr2 hs2
            have hb2 : look k' ((k', Blk.lst sz' xs 0) :: upd k .gone own') = some (.lst sz' xs 0) := by simp [look]
            obtain ⟨S2, c1⟩ := frz_lst hr2 hb2
            exact lst ρ2 S2 _ k' c1.rel (by rw [look_upd hb2]; simp) hs2
          · exact hK.elim
        · exact hK.elim
      · obtain ⟨b, hb, hK⟩ := lkupK_elim hK
        cases hv with
        | sl _ _ _ b' hb' _ hs =>
        rw [hb] at hb'; cases hb'
        split at hK
        · rename_i sz' ts m
          split at hK
          · obtain ⟨e, hK2⟩ := natK_elim hK
            have e := Nat.eq_of_beq_eq_true e
            subst e
            have hK : ts = xs := hK2
            subst hK
            obtain ⟨S2, c1⟩ := frz_lst hr hb
            exact lst ρ' S2 _ k c1.rel (by rw [look_upd hb]; simp) hs
          · obtain ⟨e, hK2⟩ := natK_elim hK
            have e := Nat.eq_of_beq_eq_true e
            subst e
            have hK : ts = xs := hK2
            subst hK
            exact lst ρ' S' _ k hr hb hs
          · exact hK.elim
        · exact hK.elim
      · exact hK.elim
    · rename_i sz' ys heq
      rw [heq] at hv
      obtain ⟨e, hK2⟩ := natK_elim hK
      have e := Nat.eq_of_beq_eq_true e
      subst e
      have hK : ys = xs := hK2
      subst hK
      cases hv with
      | cl _ _ ad ht =>
      refine ⟨S', hr.sub, fun b o hb => sup_nil hr hb, ht, fun b o sp n cap hu => ?_, fun n cap hu => ?_⟩
      · cases hu; exact .inl rfl
      · cases hu
        cases ht with
        | list _ _ _ _ u hcap ha hsz hrr =>
          cases ys with
          | nil => rfl
          | cons y ys => obtain ⟨b, o, h, _⟩ := ha (by simp); cases h
    · rename_i x heq
      rw [heq] at hv
      split at hK
      · subst hK
        have := hv.t_of
        cases this
        refine ⟨S', hr.sub, fun b o hb => sup_nil hr hb, ?_, fun b o sp n cap hu => ?_, fun n cap hu => ?_⟩
        · exact .list sz [] none 0 (fun _ _ => .nilFunc) (by simp) (fun h => absurd rfl h) (fun x hx => by cases hx) (fun i x hx => by simp at hx)
        · cases hu
        · cases hu; rfl
      · exact hK.elim
    · exact hK.elim

theorem fnI_ok (hΓ : EnvOk P Γ) {f : FuncId} {fn : Func} {m : MFn} {args : List V} {own : Own} {R : V → Own → Prop} (hf : P.funcs[f]? = some fn) (hl : lowFn P fn = some m)
    (hprot : ∀ k b, look k own = some b → k ∈ Γ.prot) (h : fnI Γ m args own R) : FnV P Γ.gl f args own R := by
  obtain ⟨hnp, h⟩ := lenK_elim h
  have h3 := initK_elim h
  refine ⟨?_, fun S w ρ vals hmem hsz hrel => ?_⟩
  · unfold lowFn at hl
    split at hl
    · rename_i c hb
      split at hl
      · split at hl
        · cases hl
        · rename_i hname; exact ⟨fn, hf, by simp [hb], hname⟩
      · cases hl
    · cases hl
  · refine Calls.mono (body_run (K := fun l st => gcK (vRefs (oneV l) ++ Γ.prot) st.own fun own' => R (oneV l) own') hΓ hf hl hmem hprot hsz hnp hrel h3).2 fun e w' he => ?_
    obtain ⟨u, l, st', S', ρ', a', rfl, hK, hr, hv⟩ := he
    obtain ⟨tm', own'⟩ := st'
    obtain ⟨own2, hR, g1, g2⟩ := gc_rel hr (fun k b hk => List.mem_append.2 (.inr (hprot k b hk))) hK
    have hr2 : Rel Γ ⟨w, S, ρ, own, []⟩ S' ρ' ⟨List.replicate tm'.length .dead, own2⟩ a' w' := by
      refine g1 _ (fun i v u hv _ => ?_) (by simp) fun k hk => ?_
      · rw [List.getElem?_replicate] at hv
        split at hv
        · cases hv; exact .dead u
        · cases hv
      · exfalso
        have : ∀ n, vsRefs (List.replicate n V.dead) = [] := by
          intro n
          induction n with
          | zero => rfl
          | succ n ih => rw [List.replicate_succ]; simp [vsRefs, vRefs, ih]
        rw [this] at hk; cases hk
    exact ⟨u, oneV l, own2, S', ρ', rfl, hR, hr2.mem, g2 _ _ (fun k hk => List.mem_append.2 (.inl hk)) hv, hr2.keep, hr2.sub, hr2.sup, hr2.le, hr2.rho, hr2.clB⟩
theorem EnvOk.with (h : EnvOk P Γ) (base : Nat) (prot : List Nat) : EnvOk P { Γ with base := base, prot := prot } := ⟨h.fn, h.gl, h.pk, h.pt, h.pn⟩
def keysOf : Own → List Nat
  | [] => []
  | p :: r => p.1 :: keysOf r
theorem keysOf_look {k : Nat} {b : Blk} : ∀ {own : Own}, look k own = some b → k ∈ keysOf own
  | [], h => by simp [look] at h
  | p :: r, h => by
    simp only [look] at h
    split at h
    · rename_i e; subst e; exact List.mem_cons_self
    · exact List.mem_cons_of_mem _ (keysOf_look h)
def inl (Γ : Env) (m : MFn) (base : Nat) (args : List V) (own : Own) (R : V → Own → Prop) : Prop := fnI { Γ with base := base, prot := keysOf own } m args own R
theorem inl_ok (hΓ : EnvOk P Γ) {f : FuncId} {fn : Func} {m : MFn} {base : Nat} {args : List V} {own : Own} {R : V → Own → Prop} (hf : P.funcs[f]? = some fn) (hl : lowFn P fn = some m) (h : inl Γ m base args own R) : FnV P Γ.gl f args own R :=
  fnI_ok (Γ := { Γ with base := base, prot := keysOf own }) (hΓ.with base (keysOf own)) hf hl (fun k b hk => keysOf_look hk) h
noncomputable def fnP (Γ : Env) (m : MFn) (args : List T) (K : T → Prop) (X : Option T → Prop) : Prop :=
  lenK args m.np (tagK args fun vs => initK vs (m.nt - m.np) fun tm => wpx Γ m.body ⟨tm, []⟩ fun e st => endP e (resK st m.res fun l =>
    run false (toTP 8 (oneV l) fun x => .ret (.t x)) st.own [] fun v _ _ => match v with
      | .t x => K x
      | _ => False) X)
theorem fnP_ok (hΓ : EnvOk P Γ) {f : FuncId} {fn : Func} {m : MFn} {vs : List T} {c : Bool} {x : T} {y : Option T} (hf : P.funcs[f]? = some fn) (hl : lowFn P fn = some m)
    (h : fnP Γ m vs (fun t => c = true ∧ t = x) (fun z => c = false ∧ (y = none ∨ z = y))) : FnPk P Γ.gl f vs c x y := by
  obtain ⟨hnp, h⟩ := lenK_elim h
  have h3 := initK_elim (tagK_elim h)
  have main := fun (S : Cells) (w : World) (args : Array Value) (hlt : ∀ b o, S b o → b < w.heap.size) (hgl : GlOk Γ.gl S w) (hsz : args.size = vs.length) (hrel : ∀ (i : Nat) (c : T) (u : Value), vs[i]? = some c → args[i]? = some u → RelT S w c u) =>
    body_runP (ρ := fun _ => ⟨0, .nilFunc⟩) (vals := args) (K := fun l st => run false (toTP 8 (oneV l) fun x => .ret (.t x)) st.own [] fun v _ _ => match v with
      | .t t => c = true ∧ t = x
      | _ => False) (X := fun z _ => c = false ∧ (y = none ∨ z = y)) hΓ hf hl (mem_nil hlt hgl _) (fun k b hk => by simp [look] at hk) (by simpa using hsz) (by simpa using hnp) (rel_ts hrel) h3
  refine ⟨?_, fun S w args hlt hgl hsz hrel => ?_⟩
  · unfold lowFn at hl
    split at hl
    · rename_i c hb
      split at hl
      · split at hl
        · cases hl
        · rename_i hname; exact ⟨fn, hf, by simp [hb], hname⟩
      · cases hl
    · cases hl
  · refine Calls.mono (main S w args hlt hgl hsz hrel).2 fun e w' he => ?_
    rcases he with ⟨u, l, st', S', ρ', a', rfl, hK, hr, hv⟩ | ⟨z, u, st', S', ρ', a', rfl, ⟨hc, hz⟩, hr, hu⟩
    · obtain ⟨tm', own'⟩ := st'
      obtain ⟨t, own2, S2, log2, g1, g2, g3⟩ := toT_ok 8 _ _ _ _ _ _ _ _ _ _ _ _ _ _ hr hv hK
      have g1 : c = true ∧ t = x := g1
      obtain ⟨hc, rfl⟩ := g1
      exact ⟨below_of hr, .inl ⟨hc, u, rfl, g3.mono (fun b o hb => sup_nil g2.rel hb) (fun _ _ _ => rfl)⟩⟩
    · refine ⟨below_of hr, .inr ⟨hc, u, rfl, hu.1, fun t ht => ?_⟩⟩
      rcases hz with rfl | rfl
      · cases ht
      · exact (hu.2 t ht).mono (fun b o hb => sup_nil hr hb) (fun _ _ _ => rfl)

def DefOk (P : Program) (gl : Gl) (g : FuncId) (md : Option (Option T)) (ks : List Nat) (own : Own) (R : Own → Prop) : Prop :=
  Enter P g ∧ ∀ (S : Cells) (w : World) (ρ : Infos) (u : Value), Mem gl S w ρ own → (∀ k ∈ ks, ∃ b, look k own = some b) → (∀ y, md = some y → PanR S w y u) →
    CallsD P g (ks.map fun k => Value.pointer (some ⟨(ρ k).blk, 0, none⟩)).toArray (match md with | none => .returning | some _ => .panicking [{ v := u, recovered := false }]) w fun e u' w' =>
      ∃ v own' S' ρ', e = .returned v ∧ settle u' = .returning ∧ R own' ∧ Mem gl S' w' ρ' own' ∧ Keep (Claims ρ own) w w' ∧ (∀ b o, S b o → S' b o) ∧
        (∀ b o, S' b o → S b o ∨ Claims ρ own b o ∨ w.heap.size ≤ b) ∧ OwnLe own own' ∧ (∀ k b, look k own = some b → ρ' k = ρ k) ∧ (∀ b o, Claims ρ' own' b o → Claims ρ own b o ∨ w.heap.size ≤ b)
abbrev DPt := Option (Option T) → List Nat → Own → (Own → Prop) → Prop
def capsK (tm : List V) : List Nat → (List Nat → Prop) → Prop
  | [], K => K []
  | t :: r, K => getK tm t fun v => match v with
    | .ptr k off => match off with
      | 0 => capsK tm r fun ks => K (k :: ks)
      | _ + 1 => False
    | _ => False
theorem capsK_elim {tm : List V} : ∀ {ts : List Nat} {K : List Nat → Prop}, capsK tm ts K → ∃ ks, K ks ∧ ks.length = ts.length ∧ ∀ (i t k : Nat), ts[i]? = some t → ks[i]? = some k → tm[t]? = some (.ptr k 0)
  | [], K, h => ⟨[], h, rfl, fun i t k ht => by simp at ht⟩
  | t :: r, K, h => by
    unfold capsK at h
    obtain ⟨v, hv, h⟩ := getK_elim h
    split at h
    · rename_i k off
      split at h
      · obtain ⟨ks, h1, h2, h3⟩ := capsK_elim h
        refine ⟨_, h1, by simp [h2], fun i t' k' ht hk => ?_⟩
        match i with
        | 0 => simp at ht hk; subst ht hk; exact hv
        | i + 1 => exact h3 i t' k' (by simpa using ht) (by simpa using hk)
      · exact h.elim
    · exact h.elim
noncomputable def outK (tm : List V) (rs : List Res) (K : T → Prop) (own : Own) : Prop := resK ⟨tm, own⟩ rs fun l => run false (toTP 8 (oneV l) fun x => .ret (.t x)) own [] fun v _ _ => match v with
  | .t x => K x
  | _ => False
noncomputable def fnD (Γ : Env) (mA mR : MC) (np nt t1 : Nat) (ts : List Nat) (clo : DPt) (rs : List Res) (args : List T) (K : T → Prop) : Prop :=
  lenK args np (tagK args fun vs => initK vs (nt - np) fun tm => wpx Γ mA ⟨tm, []⟩ fun e st => match e with
    | .normal => capsK st.tm ts fun ks => setK st.tm t1 .dead fun tm' => wpx { Γ with prot := keysOf st.own } mR ⟨tm', st.own⟩ fun e st2 => match e with
      | .normal => clo none ks st2.own (outK st2.tm rs K)
      | .ret => clo none ks st2.own (outK st2.tm rs K)
      | .pan y => clo (some y) ks st2.own (outK st2.tm rs K)
      | .exit _ => False
    | _ => False)
structure DefReg (c : Code) (g : FuncId) (t1 : Nat) (ts : List Nat) : Prop where
  is : ∃ (id : Nat) (o1 o2 : Oper) (caps : Array Operand) (cl : Call), c = .region id #[o1, o2] false ∧ o1.op = .makeFunc (.func g) #[] caps ∧ caps.toList = ts.map .tmp ∧ o1.dst = some t1 ∧ o1.guard = none ∧
    o2.op = .defer cl ∧ cl.callee = .value (.tmp t1) ∧ cl.args = #[] ∧ o2.dst = none ∧ o2.guard = none
theorem defReg_wp {c : Code} {g : FuncId} {t1 : Nat} {ts : List Nat} (h : DefReg c g t1 ts) {a : Act} {w : World} {Q : Exit → Act → World → Prop} (ht : t1 < a.tmps.size)
    (hQ : Q .normal { tmps := a.tmps.setIfInBounds t1 (.func (.func g) #[] (ts.map fun t => a.eval (.tmp t)).toArray), defers := { target := .fn (.func g) (ts.map fun t => a.eval (.tmp t)).toArray, args := #[] } :: a.defers } w) : c.wp P Q a w := by
  obtain ⟨id, o1, o2, caps, cl, rfl, h1, h2, h3, h4, h5, h6, h7, h8, h9⟩ := h.is
  refine wp_region_list ?_
  have e0 : caps.map a.eval = (ts.map fun t => a.eval (.tmp t)).toArray := by
    apply Array.toList_inj.1
    rw [Array.toList_map, h2]; simp
  have r1 : (execOp a.eval o1).run P w = .ok (.value (.func (.func g) #[] (ts.map fun t => a.eval (.tmp t)).toArray)) w := by
    simp [execOp, h1, Instr.makeFunc, e0]
  show wpList P #[o1, o2] Q [o1, o2] a w
  unfold wpList
  rw [if_pos (by simp [Region.wanted, h4])]
  refine .inl ?_
  simp only [Oper.wp, r1, Oper.upon]
  unfold wpList
  rw [if_pos (by simp [Region.wanted, h9])]
  refine .inl ?_
  have e1 : (a.put o1.dst (.func (.func g) #[] (ts.map fun t => a.eval (.tmp t)).toArray)).eval (.tmp t1) = .func (.func g) #[] (ts.map fun t => a.eval (.tmp t)).toArray := by
    simp [h3, Act.put, Act.eval, ht]
  have r2 : (execOp (a.put o1.dst (.func (.func g) #[] (ts.map fun t => a.eval (.tmp t)).toArray)).eval o2).run P w = .ok (.defer { target := .fn (.func g) (ts.map fun t => a.eval (.tmp t)).toArray, args := #[] }) w := by
    simp [execOp, h5, resolve, h6, e1, Deferred.ofValue, h7]
  simp only [Oper.wp, r2, Oper.upon]
  unfold wpList
  rw [h8, h3]
  exact hQ
theorem fnD_ok (hΓ : EnvOk P Γ) {f : FuncId} {fn : Func} {cA cD cR : Code} {mA mR : MC} {g : FuncId} {t1 : Nat} {ts : List Nat} {rs : List Res} {clo : DPt} {vs : List T} {x : T} (hf : P.funcs[f]? = some fn) (hb : fn.body = some (.seq cA (.seq cD cR)))
    (hname : fn.name ≠ "runtime.NumGoroutine") (hA : low P cA = some mA) (hD : DefReg cD g t1 ts) (hR : low P cR = some mR) (hrs : lowRes P fn.results.toList = some rs) (hclo : ∀ md ks own R, clo md ks own R → DefOk P Γ.gl g md ks own R)
    (h : fnD Γ mA mR (fn.params.size + fn.nfree) fn.ntmps t1 ts clo rs vs (fun y => ∀ S w v, RelT S w y v → RelT S w x v)) : FnOk P Γ.gl f vs x := by
  obtain ⟨hnp, h⟩ := lenK_elim h
  have h3 := initK_elim (tagK_elim h)
  refine ⟨⟨fn, hf, by simp [hb], hname⟩, fun S w args hlt hgl hsz hrel => ?_⟩
  refine calls_of_wp_defers hf hb ?_
  have hg : Good Γ ⟨w, S, fun _ => ⟨0, .nilFunc⟩, [], []⟩ ⟨vs.map V.t ++ List.replicate (fn.ntmps - (fn.params.size + fn.nfree)) .dead, []⟩ { tmps := args ++ Array.replicate (fn.ntmps - args.size) undef, defers := [] } w := by
    have hmem := mem_nil (S := S) (w := w) hlt hgl (fun _ => ⟨0, .nilFunc⟩)
    refine ⟨S, _, hmem, .refl _ w, hmem.lt, fun _ _ h => h, fun _ _ h => .inl h, fun _ _ h => .inl h, .refl _, fun _ _ _ => rfl, fun k b hk => by simp [look] at hk, ?_, ?_, rfl⟩
    · simp only [Array.size_append, Array.size_replicate, List.length_append, List.length_replicate, hsz, List.length_map]
      rw [hnp]
    · intro i v u hv hu
      by_cases hi : i < vs.length
      · rw [List.getElem?_append_left (by simpa using hi)] at hv
        rw [Array.getElem?_append_left (by omega)] at hu
        exact rel_ts hrel i v u hv hu
      · rw [List.getElem?_append_right (by simpa using Nat.le_of_not_lt hi)] at hv
        rw [List.getElem?_replicate] at hv
        split at hv
        · cases hv; exact .dead u
        · cases hv
  refine wp_seq (wpx_sound hΓ cA mA _ _ w _ _ hA h3 hg fun e st a1 w1 hK hg1 => ?_)
  cases e with
  | exit i => exact hK.elim
  | ret => exact hK.elim
  | pan y => exact hK.elim
  | normal =>
  obtain ⟨S1, ρ1, hr1⟩ := hg1
  obtain ⟨tm1, own1⟩ := st
  obtain ⟨ks, hK, hlen, hcap⟩ := capsK_elim hK
  obtain ⟨hlt1, hK⟩ := setK_elim hK
  refine wp_seq (defReg_wp hD (by rw [hr1.len]; exact hlt1) ?_)
  have hks : ∀ k ∈ ks, ∃ b, look k own1 = some b := fun k hk => by
    obtain ⟨i, hi⟩ := List.getElem?_of_mem hk
    have hl : i < ts.length := by rw [← hlen]; exact (List.getElem?_eq_some_iff.1 hi).1
    have hv := hcap i _ k (List.getElem?_eq_getElem hl) hi
    obtain ⟨u, hu⟩ : ∃ u, a1.tmps[ts[i]]? = some u := ⟨_, Array.getElem?_eq_getElem (by rw [hr1.len]; exact (List.getElem?_eq_some_iff.1 hv).1)⟩
    cases hr1.tm _ _ _ hv hu with
    | ptr _ _ b hb => exact ⟨b, hb⟩
  have hcv : (ts.map fun t => a1.eval (.tmp t)) = ks.map fun k => Value.pointer (some ⟨(ρ1 k).blk, 0, none⟩) := by
    apply List.ext_getElem?
    intro i
    rw [List.getElem?_map, List.getElem?_map]
    by_cases hi : i < ts.length
    · have hi2 : i < ks.length := by rw [hlen]; exact hi
      rw [List.getElem?_eq_getElem hi, List.getElem?_eq_getElem hi2]
      have hv := hcap i _ _ (List.getElem?_eq_getElem hi) (List.getElem?_eq_getElem hi2)
      obtain ⟨u, hu⟩ : ∃ u, a1.tmps[ts[i]]? = some u := ⟨_, Array.getElem?_eq_getElem (by rw [hr1.len]; exact (List.getElem?_eq_some_iff.1 hv).1)⟩
      have := hr1.tm _ _ _ hv hu
      have e : a1.eval (.tmp ts[i]) = u := by simp [Act.eval, hu]
      simp only [Option.map_some]
      rw [e]
      cases this with
      | ptr _ _ b hb => rfl
    · rw [List.getElem?_eq_none (by omega), List.getElem?_eq_none (by omega)]; rfl
  have hdef := hr1.defers
  rw [hcv, hdef]
  generalize hfv : Value.func (Fn.func g) #[] (ks.map fun k => Value.pointer (some ⟨(ρ1 k).blk, 0, none⟩)).toArray = fv
  have hg2 : Good { Γ with prot := keysOf own1 } ⟨w1, S1, ρ1, own1, [{ target := .fn (.func g) (ks.map fun k => Value.pointer (some ⟨(ρ1 k).blk, 0, none⟩)).toArray, args := #[] }]⟩ ⟨tm1.set t1 .dead, own1⟩
      { tmps := a1.tmps.setIfInBounds t1 fv, defers := [{ target := .fn (.func g) (ks.map fun k => Value.pointer (some ⟨(ρ1 k).blk, 0, none⟩)).toArray, args := #[] }] } w1 := by
    refine ⟨S1, ρ1, hr1.mem, .refl _ w1, hr1.mem.lt, fun _ _ h => h, fun _ _ h => .inl h, fun _ _ h => .inl h, .refl _, fun _ _ _ => rfl, fun k b hk => keysOf_look hk, ?_, ?_, rfl⟩
    · simpa using hr1.len
    · intro i v u hv hu
      by_cases hi : t1 = i
      · subst hi
        rw [List.getElem?_set_self hlt1] at hv
        cases hv; exact .dead u
      · rw [List.getElem?_set_ne hi] at hv
        simp only [Array.getElem?_setIfInBounds] at hu
        rw [if_neg hi] at hu
        exact hr1.tm i v u hv hu
  refine wpx_sound (hΓ.with Γ.base (keysOf own1)) cR mR _ _ w1 _ _ hR hK hg2 fun e st2 a2 w2 hK2 hg3 => ?_
  have door : ∀ (md : Option (Option T)) (u : Value) (S2 : Cells) (ρ2 : Infos), Rel { Γ with prot := keysOf own1 } ⟨w1, S1, ρ1, own1, [{ target := .fn (.func g) (ks.map fun k => Value.pointer (some ⟨(ρ1 k).blk, 0, none⟩)).toArray, args := #[] }]⟩ S2 ρ2 st2 a2 w2 →
      (∀ y, md = some y → PanR S2 w2 y u) → clo md ks st2.own (outK st2.tm rs (fun y => ∀ S w v, RelT S w y v → RelT S w x v)) →
      Leaves P fn a2.tmps (fun e w' => ∃ v, e = .returned v ∧ RelT (fresh S w w') w' x v ∧ Below w.heap.size w w') a2.defers (match md with | none => .returning | some _ => .panicking [{ v := u, recovered := false }]) w2 := by
    intro md u S2 ρ2 hr2 hu hc
    obtain ⟨⟨fg, e1, e2, e3⟩, hd⟩ := hclo _ _ _ _ hc
    obtain ⟨tm2, own2⟩ := st2
    have hkρ : ∀ k ∈ ks, ρ2 k = ρ1 k ∧ ∃ b, look k own2 = some b := fun k hk => by
      obtain ⟨b, hb⟩ := hks k hk
      obtain ⟨b', hb', _⟩ := hr2.le k b hb
      exact ⟨hr2.rho k b hb, b', hb'⟩
    have hvals : (ks.map fun k => Value.pointer (some ⟨(ρ1 k).blk, 0, none⟩)) = ks.map fun k => Value.pointer (some ⟨(ρ2 k).blk, 0, none⟩) :=
      List.map_congr_left fun k hk => by rw [(hkρ k hk).1]
    rw [hr2.defers]
    have hD := hd S2 w2 ρ2 u hr2.mem (fun k hk => (hkρ k hk).2) hu
    rw [← hvals] at hD
    refine ⟨by cases md <;> simp, _, _, g, (ks.map fun k => Value.pointer (some ⟨(ρ1 k).blk, 0, none⟩)).toArray, rfl, by simp [invoke, callFunc, e1, e3, show fg.body ≠ none from fun e => by rw [e] at e2; cases e2], ?_⟩
    refine CallsD.mono hD fun e u' w' he => ?_
    obtain ⟨v, own', S', ρ', rfl, hset, hR', g1, g3, g4, g5, g6, g7, g8⟩ := he
    show Leaves P fn a2.tmps _ [] (settle u') w'
    rw [hset]
    have hr4 := hr2.move g1 g3 (fun _ _ h => h) g4 g5 g6 g7 g8
    obtain ⟨l, v, q1, q2, q3⟩ := results_run hr4 hrs hR'
    refine ⟨v, q2, v, rfl, ?_⟩
    obtain ⟨t, own3, S3, log3, p1, p2, p3⟩ := toT_ok 8 _ _ _ _ _ _ _ _ _ _ _ _ _ _ hr4 q3 q1
    have p1 : ∀ S w v, RelT S w t v → RelT S w x v := p1
    have hC : ∀ b o, Claims ρ1 own1 b o → w.heap.size ≤ b := fun b o hb => by
      rcases hr1.clB b o hb with hb | hb
      · exact (base_nil hb).elim
      · exact hb
    have hb1 := below_of hr1
    have hbl : Below w.heap.size w w' := Keep.below ((hr1.keep.mono fun b o _ h => (base_nil h).elim).comp hr4.keep fun b o hlt hb => absurd (hC b o hb) (Nat.not_le_of_lt hlt))
    refine ⟨p1 _ _ _ (p3.mono (fun b o hb => ?_) (fun _ _ _ => rfl)), hbl⟩
    have hlt' := p2.rel.mem.lt b o hb
    rcases p2.rel.sup b o hb with h' | h' | h'
    · rcases sup_nil hr1 h' with h' | h'
      · exact .inl h'
      · exact .inr ⟨h'.1, hlt'⟩
    · exact .inr ⟨hC b o h', hlt'⟩
    · exact .inr ⟨Nat.le_trans hb1.size h', hlt'⟩
  cases e with
  | normal => obtain ⟨S2, ρ2, hr2⟩ := hg3; exact door none .nilIface S2 ρ2 hr2 (fun y h => by cases h) hK2
  | ret => obtain ⟨S2, ρ2, hr2⟩ := hg3; exact door none .nilIface S2 ρ2 hr2 (fun y h => by cases h) hK2
  | exit i => exact hK2.elim
  | pan y => exact fun S2 ρ2 u hr2 hu => door (some y) u S2 ρ2 hr2 (fun z hz => by cases hz; exact hu) hK2
end
end Go.Nx
end
