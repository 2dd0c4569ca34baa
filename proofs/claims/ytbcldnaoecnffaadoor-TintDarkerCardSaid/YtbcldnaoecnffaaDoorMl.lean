/-
  STRUCTS THAT ARE BUILT; THE CALL; A STEP.
-/
import Derived.Test.YtbcldnaoecnffaaDoorMk
set_option linter.unusedVariables false
namespace Go.Mx
open Go.RowKit

section
variable {P : Program} {Γ : Env} {B : Base} {S : Cells} {ρ : Nat → Info} {tm : List V} {own : List (Nat × Blk)} {a : Act} {w : World}
variable {o : Oper} {K : St → Prop} {next : Act → World → Prop} {Q : Exit → Act → World → Prop}

theorem putN_nil {α : Type} (cs : List α) (o : Nat) : putN cs o [] = cs := by cases cs <;> cases o <;> rfl
theorem putN_cons {α : Type} (cs : List α) (o : Nat) (v : α) (vs : List α) (h : o < cs.length) : putN (cs.set o v) (o + 1) vs = putN cs o (v :: vs) := by
  induction cs generalizing o with
  | nil => simp at h
  | cons x r ih =>
    cases o with
    | zero =>
      cases vs with
      | nil => simp [putN_nil, putN]
      | cons => simp [putN]
    | succ o =>
      simp only [List.set_cons_succ]
      cases vs with
      | nil => have := ih o (by simpa using h); rw [putN_nil] at this ⊢; rw [this]; rfl
      | cons => simp only [putN]; rw [ih o (by simpa using h)]
theorem fill_foldl (off : Nat) : ∀ (l : List Value) (s : Nat) (cells : Array Value), off + s + l.length ≤ cells.size →
    ((l.zipIdx s).foldl (fun cs p => cs.setIfInBounds (off + p.2) p.1) cells).toList = putN cells.toList (off + s) l := by
  intro l
  induction l with
  | nil =>
    intro s cells h
    simp
    cases cells.toList <;> cases (off + s) <;> rfl
  | cons v l ih =>
    intro s cells h
    simp at h
    simp only [List.zipIdx_cons, List.foldl_cons]
    rw [ih (s + 1) (cells.setIfInBounds (off + s) v) (by simp; omega)]
    rw [← Nat.add_assoc]
    simp only [Array.toList_setIfInBounds]
    exact putN_cons _ _ _ _ (by simp; omega)
theorem placeOf_spec {t : TypeId} {f : Nat → Option (Nat × Nat)} (h : placeOf P t = some f) : ∃ i z, P.info? t = some i ∧ i.zero = some z ∧ ∀ parts, P.built t parts = Instr.fill f z.cells parts := by
  unfold placeOf at h
  split at h
  · rename_i it len e h1 h2
    split at h
    · rename_i z ie h3 h4
      cases h
      exact ⟨it, z, h1, h3, fun parts => by simp [Program.built, h1, h2, h3, h4]⟩
    · cases h
  · rename_i it fs h1 h2
    split at h
    · rename_i z pl h3 h4
      cases h
      exact ⟨it, z, h1, h3, fun parts => by simp [Program.built, h1, h2, h3, h4]⟩
    · cases h
  · cases h

theorem fill_run (hr : Rel Γ B S ρ ⟨tm, own⟩ a w) {f : Nat → Option (Nat × Nat)} : ∀ (ps : List (Nat × Operand)) (l : List (Nat × Nat × Opd)) (cs : List T) (cells : Array Value) (K' : List T → Prop), partsOf f ps = some l →
    RelT S w (.agg cs) (.agg cells) → fillK Γ tm l cs K' → ∃ cs' cells', K' cs' ∧ RelT S w (.agg cs') (.agg cells') ∧ Instr.fill f cells (ps.map fun p => (p.1, a.eval p.2)) = some cells' := by
  intro ps
  induction ps with
  | nil =>
    intro l cs cells K' hp hrel h
    simp [partsOf] at hp; subst hp
    exact ⟨cs, cells, h, hrel, by simp [Instr.fill]⟩
  | cons p ps ih =>
    intro l cs cells K' hp hrel h
    obtain ⟨i, x⟩ := p
    simp only [partsOf] at hp
    split at hp
    · rename_i q y ys h1 h2 h3
      obtain ⟨off, n⟩ := q
      simp only at hp
      split at hp
      · cases hp
      rename_i hn0
      cases hp
      simp only [fillK] at h
      obtain ⟨v, hv, h⟩ := evK_elim h
      have hx := ev_rel hr h2 hv
      obtain ⟨z, hz, h⟩ := toTK_elim h
      subst hz
      obtain ⟨c1, c2, h⟩ := cellsTK_elim h
      obtain ⟨c3, h⟩ := lenK_elim h
      obtain ⟨c4, h⟩ := putNK_elim h
      obtain ⟨d1, d2⟩ := RelT.cells hx c2
      obtain ⟨arr, e1, d3, d4⟩ := RelT.agg_of hrel
      cases e1
      have hz : z.cells ≠ [] := fun e => by rw [e] at c3; simp at c3; omega
      · have hb : off + z.cells.length ≤ cs.length := by
          rcases c4 with c4 | c4
          · exact absurd c4 hz
          · exact c4
        have e2 : ((a.eval x).cells.zipIdx.foldl (fun cs (c, j) => cs.setIfInBounds (off + j) c) cells).toList = putN cells.toList off (a.eval x).cells.toList := by
          have := fill_foldl off (a.eval x).cells.toList 0 cells (by simp; omega)
          rw [Nat.add_zero] at this
          rw [← this, ← Array.foldl_toList, Array.toList_zipIdx]
        have hrel' : RelT S w (.agg (putN cs off z.cells)) (.agg ((a.eval x).cells.zipIdx.foldl (fun cs (c, j) => cs.setIfInBounds (off + j) c) cells)) := by
          refine .agg _ _ ?_ fun j c u hc hu => ?_
          · rw [← Array.length_toList, e2, putN_length _ _ _ (.inr (by simp; omega)), putN_length _ _ _ (.inr hb)]; simpa using d3
          · rw [putN_get _ _ _ j hb] at hc
            rw [← Array.getElem?_toList, e2, putN_get _ _ _ j (by simp; omega)] at hu
            by_cases c5 : off ≤ j ∧ j < off + z.cells.length
            · rw [if_pos c5] at hc
              rw [if_pos (by simp; omega)] at hu
              exact d2 _ _ _ hc (by simpa using hu)
            · rw [if_neg c5] at hc
              rw [if_neg (by simp; omega)] at hu
              exact d4 _ _ _ hc (by simpa using hu)
        obtain ⟨cs', cells', g1, g2, g3⟩ := ih ys _ _ K' h3 hrel' h
        refine ⟨cs', cells', g1, g2, ?_⟩
        simp only [List.map_cons, Instr.fill, h1]
        rw [if_neg (by simp; omega)]
        exact g3
    · cases hp

theorem op_bld (hn : ∀ st' a' w', K st' → Good Γ B st' a' w' → next a' w') (hr : Rel Γ B S ρ ⟨tm, own⟩ a w) {t : TypeId} {ps : Array (Nat × Operand)} {z : List T} {f : Nat → Option (Nat × Nat)} {l : List (Nat × Nat × Opd)} (hz : ofZero P t = some z)
    (hf : placeOf P t = some f) (hl : partsOf f ps.toList = some l) (ho : o.op = .build t ps) (h : stepK Γ o.dst ⟨tm, own⟩ (.bld z l) K) : o.wp P a w next Q := by
  obtain ⟨i, v, h1, h2, h3, h4⟩ := ofZero_spec hz
  obtain ⟨i', v', g1, g2, g3⟩ := placeOf_spec hf
  rw [h1] at g1; cases g1
  rw [h2] at g2; cases g2
  obtain ⟨cs', cells', k1, k2, k3⟩ := fill_run (w := w) hr ps.toList l z v.cells _ hl (.agg _ _ h3 (h4 S w)) h
  refine fin_val hn k1 hr (u := .agg cells') k2 ?_
  have := run_build (P := P) w t (ps.map fun p => (p.1, a.eval p.2)) cells' (by rw [g3]; simpa using k3)
  simp [execOp, ho, this]

theorem argsK_elim (hr : Rel Γ B S ρ ⟨tm, own⟩ a w) : ∀ (xs : List Operand) (ys : List Opd) (K' : List T → Prop), lowXs xs = some ys → argsK Γ tm ys K' →
    ∃ vs, K' vs ∧ vs.length = xs.length ∧ ∀ (i : Nat) (c : T) (x : Operand), vs[i]? = some c → xs[i]? = some x → RelT S w c (a.eval x) := by
  intro xs
  induction xs with
  | nil =>
    intro ys K' h hk
    simp [lowXs] at h; subst h
    exact ⟨[], hk, rfl, fun i c x h => by simp at h⟩
  | cons x xs ih =>
    intro ys K' h hk
    simp only [lowXs] at h
    split at h
    · rename_i y ys' h1 h2
      cases h
      simp only [argsK] at hk
      obtain ⟨v, hv, hk⟩ := evK_elim hk
      have hx := ev_rel hr h1 hv
      obtain ⟨z, hz, hk⟩ := toTK_elim hk
      subst hz
      obtain ⟨vs, k1, k2, k3⟩ := ih ys' _ h2 hk
      refine ⟨z :: vs, k1, by simp [k2], fun i c x' hc hx' => ?_⟩
      cases i with
      | zero => simp at hc hx'; subst hc hx'; exact hx
      | succ i => exact k3 i c x' (by simpa using hc) (by simpa using hx')
    · cases h

theorem op_call (hΓ : EnvOk P Γ) (hn : ∀ st' a' w', K st' → Good Γ B st' a' w' → next a' w') (hr : Rel Γ B S ρ ⟨tm, own⟩ a w) {c : Call} {x : Operand} {x' : Opd} {ys : List Opd} (hx : lowX x = some x') (hc : c.callee = .value x) (hy : lowXs c.args.toList = some ys)
    (ho : o.op = .call c) (h : stepK Γ o.dst ⟨tm, own⟩ (.call x' ys) K) : o.wp P a w next Q := by
  obtain ⟨v, hv, h⟩ := evK_elim h
  have hrel := ev_rel hr hx hv
  split at h
  · rename_i f
    obtain ⟨vs, h1, h2, h3⟩ := argsK_elim hr _ _ _ hy h
    obtain ⟨r, h4, h5⟩ := ansK_elim h1
    obtain ⟨⟨fn, e1, e2, e3⟩, hok⟩ := hΓ _ _ _ h4
    have hf : a.eval x = .func (.func f) #[] #[] := by
      have hrel' : RelT S w (.fn (.func f) [] []) (a.eval x) := hrel
      generalize a.eval x = u at hrel'
      cases hrel' with
      | fn _ _ _ va vb q1 q2 _ _ =>
        rw [Array.size_eq_zero_iff.1 q1, Array.size_eq_zero_iff.1 q2]
    have hcalls := hok S w (c.args.map a.eval) hr.lt hr.gl (by simp [h2]) (fun i c' u hc' hu => by
      rw [Array.getElem?_map, Option.map_eq_some_iff] at hu
      obtain ⟨y, hy1, rfl⟩ := hu
      exact h3 i c' y hc' (by simpa using hy1))
    have run : (execOp a.eval o).run P w = .ok (.enter f (c.args.map a.eval)) w := by
      have e4 : fn.body.isNone = false := by cases hb : fn.body <;> simp_all
      have e5 : fn.body ≠ none := by intro e; rw [e] at e4; cases e4
      simp [execOp, ho, resolve, hc, hf, Deferred.ofValue, invoke, callFunc, e1, e3, e5]
    simp only [Oper.wp, run, Oper.upon]
    refine Calls.mono hcalls fun e w' he => ?_
    obtain ⟨u, rfl, g1, g2⟩ := he
    exact hn _ _ _ (putK_elim h5).2 ⟨_, ρ, (hr.called g2).put g1⟩
  · exact h.elim
end
end Go.Mx
