/-
  A part of the machine, and of what is walked.
-/
import Derived.Test.YtdfjedkpclebgaaDoorP4
import Derived.WideLaws
import Derived.Laws.Entries
section
set_option linter.unusedVariables false
set_option linter.unusedSimpArgs false
namespace Go.Nx
open Go.RowKit

def FnOk (P : Program) (gl : Gl) (f : FuncId) (vs : List T) (x : T) : Prop :=
  Enter P f ∧ ∀ (S : Cells) (w : World) (args : Array Value), (∀ b o, S b o → b < w.heap.size) → GlOk gl S w → args.size = vs.length →
    (∀ (i : Nat) (c : T) (u : Value), vs[i]? = some c → args[i]? = some u → RelT S w c u) →
    Calls P f args w fun e w' => ∃ v, e = .returned v ∧ RelT (fresh S w w') w' x v ∧ Below w.heap.size w w'
def FnGl (P : Program) (gl : Gl) (f : FuncId) (vs : List T) (sz : Nat) (xs : List T) : Prop :=
  Enter P f ∧ ∀ (S : Cells) (w : World) (args : Array Value), (∀ b o, S b o → b < w.heap.size) → GlOk gl S w → args.size = vs.length →
    (∀ (i : Nat) (c : T) (u : Value), vs[i]? = some c → args[i]? = some u → RelT S w c u) →
    Calls P f args w fun e w' => ∃ v, e = .returned v ∧ Below w.heap.size w w' ∧ ∃ S' : Cells, (∀ b o, S b o → S' b o) ∧ (∀ b o, S' b o → S b o ∨ (w.heap.size ≤ b ∧ b < w'.heap.size)) ∧ RelT S' w' (.list sz xs) v ∧
      (∀ b o sp n cap, v = .slice (some ⟨b, o, sp⟩) n cap → cap = n ∨ sp = none ∧ (∃ arr e, w'.heap[b]? = some (.cells arr e (0, 0)) ∧ o + cap * sz ≤ arr.size) ∧ ∀ j, o + n * sz ≤ j → j < o + cap * sz → w.heap.size ≤ b ∧ ¬ S' b j) ∧
      (∀ n cap, v = .slice none n cap → cap = 0)
def FnV (P : Program) (gl : Gl) (f : FuncId) (args : List V) (own : Own) (R : V → Own → Prop) : Prop :=
  Enter P f ∧ ∀ (S : Cells) (w : World) (ρ : Infos) (vals : Array Value), Mem gl S w ρ own → vals.size = args.length →
    (∀ (i : Nat) (v : V) (u : Value), args[i]? = some v → vals[i]? = some u → RelV S w ρ own v u) →
    Calls P f vals w fun e w' => ∃ u v own' S' ρ', e = .returned u ∧ R v own' ∧ Mem gl S' w' ρ' own' ∧ RelV S' w' ρ' own' v u ∧ Keep (Claims ρ own) w w' ∧ (∀ b o, S b o → S' b o) ∧
      (∀ b o, S' b o → S b o ∨ Claims ρ own b o ∨ w.heap.size ≤ b) ∧ OwnLe own own' ∧ (∀ k b, look k own = some b → ρ' k = ρ k) ∧ (∀ b o, Claims ρ' own' b o → Claims ρ own b o ∨ w.heap.size ≤ b)
def PanR (S : Cells) (w : World) (y : Option T) (u : Value) : Prop := (∃ te pe, u = .iface te pe) ∧ ∀ t, y = some t → RelT S w t u
def FnPk (P : Program) (gl : Gl) (f : FuncId) (vs : List T) (c : Bool) (x : T) (y : Option T) : Prop :=
  Enter P f ∧ ∀ (S : Cells) (w : World) (args : Array Value), (∀ b o, S b o → b < w.heap.size) → GlOk gl S w → args.size = vs.length →
    (∀ (i : Nat) (c : T) (u : Value), vs[i]? = some c → args[i]? = some u → RelT S w c u) →
    Calls P f args w fun e w' => Below w.heap.size w w' ∧ ((c = true ∧ ∃ v, e = .returned v ∧ RelT (fresh S w w') w' x v) ∨ (c = false ∧ ∃ u, e = .panicked [{ v := u, recovered := false }] ∧ PanR (fresh S w w') w' y u))
structure EnvOk (P : Program) (Γ : Env) : Prop where
  fn : ∀ f vs x, (Γ.fn f vs = .yes x ∨ ∃ p d, Γ.fn f vs = @Ans.req p d x ∧ p) → FnOk P Γ.gl f vs x
  gl : ∀ f vs p d sz xs, Γ.fn f vs = @Ans.gl p d sz xs → p → FnGl P Γ.gl f vs sz xs
  pk : ∀ f vs p d x, Γ.fn f vs = @Ans.pk p d x → p → FnOk P Γ.gl f vs x
  pt : ∀ f base args own R, Γ.isI f = true → Γ.pt f base args own R → FnV P Γ.gl f args own R
  pn : ∀ f g, (f, g) ∈ Γ.pn → ∀ vs p c x y, g vs = .br p c x y → p → FnPk P Γ.gl f vs c x y

section
variable {P : Program} {Γ : Env} {B : Base} {S : Cells} {ρ : Infos} {tm : List V} {own : Own} {a : Act} {w : World}
variable {o : Oper} {K : V → Own → Log → Prop} {log : Log} {dr : Bool}

def Vals (Γ : Env) (tm : List V) (xs : List Opd) (vs : List V) : Prop := vs.length = xs.length ∧ ∀ (i : Nat) (x : Opd), xs[i]? = some x → ∃ v, vs[i]? = some v ∧ evF Γ tm x = some v
theorem vals_nil {vs : List V} (h : Vals Γ tm [] vs) : vs = [] := List.eq_nil_of_length_eq_zero (by simpa using h.1)
theorem vals_cons {x : Opd} {xs : List Opd} {vs : List V} (h : Vals Γ tm (x :: xs) vs) : ∃ v r, vs = v :: r ∧ evF Γ tm x = some v ∧ Vals Γ tm xs r := by
  obtain ⟨h1, h2⟩ := h
  cases vs with
  | nil => simp at h1
  | cons v r =>
    obtain ⟨v', g1, g2⟩ := h2 0 x rfl
    simp at g1; subst g1
    exact ⟨v, r, rfl, g2, by simpa using h1, fun i y hy => by simpa using h2 (i + 1) y (by simpa using hy)⟩
theorem vals1 {x : Opd} {vs : List V} (h : Vals Γ tm [x] vs) : ∃ v, vs = [v] ∧ evF Γ tm x = some v := by
  obtain ⟨v, r, rfl, h1, h2⟩ := vals_cons h
  exact ⟨v, by rw [vals_nil h2], h1⟩
theorem vals2 {x y : Opd} {vs : List V} (h : Vals Γ tm [x, y] vs) : ∃ v u, vs = [v, u] ∧ evF Γ tm x = some v ∧ evF Γ tm y = some u := by
  obtain ⟨v, r, rfl, h1, h2⟩ := vals_cons h
  obtain ⟨u, rfl, h3⟩ := vals1 h2
  exact ⟨v, u, rfl, h1, h3⟩
theorem vals3 {x y z : Opd} {vs : List V} (h : Vals Γ tm [x, y, z] vs) : ∃ v u t, vs = [v, u, t] ∧ evF Γ tm x = some v ∧ evF Γ tm y = some u ∧ evF Γ tm z = some t := by
  obtain ⟨v, r, rfl, h1, h2⟩ := vals_cons h
  obtain ⟨u, t, rfl, h3, h4⟩ := vals2 h2
  exact ⟨v, u, t, rfl, h1, h3, h4⟩
theorem lowXs_rel (hr : Rel Γ B S ρ ⟨tm, own⟩ a w) : ∀ {xs : List Operand} {ys : List Opd} {vs : List V}, lowXs xs = some ys → Vals Γ tm ys vs → vs.length = xs.length ∧ ∀ (i : Nat) (x : Operand) (v : V), xs[i]? = some x → vs[i]? = some v → RelV S w ρ own v (a.eval x)
  | [], ys, vs, h, hv => by
    simp [lowXs] at h; subst h
    rw [vals_nil hv]; exact ⟨rfl, fun i x v hx => by simp at hx⟩
  | x :: xs, ys, vs, h, hv => by
    simp only [lowXs] at h
    split at h
    · rename_i y ys' h1 h2
      cases h
      obtain ⟨v, r, rfl, g1, g2⟩ := vals_cons hv
      obtain ⟨k1, k2⟩ := lowXs_rel hr h2 g2
      refine ⟨by simp [k1], fun i x' v' hx' hv' => ?_⟩
      cases i with
      | zero => simp at hx' hv'; subst hx' hv'; exact ev_rel hr h1 g1
      | succ i => exact k2 i x' v' (by simpa using hx') (by simpa using hv')
    · cases h
theorem lowXs_len : ∀ {l : List Operand} {xs' : List Opd}, lowXs l = some xs' → xs'.length = l.length
  | [], xs', h1 => by simp [lowXs] at h1; subst h1; rfl
  | x :: l, xs', h1 => by
    simp only [lowXs] at h1
    split at h1
    · rename_i y ys'' g1 g2
      cases h1
      simp [lowXs_len g2]
    · cases h1
theorem lowO_spec {x : Option Operand} {y : Option Opd} (h : lowO x = some y) : (x = none ∧ y = none) ∨ ∃ p q, x = some p ∧ y = some q ∧ lowX p = some q := by
  cases x with
  | none => simp [lowO] at h; exact .inl ⟨rfl, h.symm⟩
  | some p =>
    simp only [lowO, Option.map_eq_some_iff] at h
    obtain ⟨q, h1, rfl⟩ := h
    exact .inr ⟨p, q, rfl, rfl, h1⟩
theorem bnds_of (hr : Rel Γ B S ρ ⟨tm, own⟩ a w) {lo hi : Option Operand} {lo' hi' : Option Opd} {vs : List V} (h1 : lowO lo = some lo') (h2 : lowO hi = some hi') (hv : Vals Γ tm (lo'.toList ++ hi'.toList) vs) : Bnds S w ρ own a lo hi lo' hi' vs := by
  rcases lowO_spec h1 with ⟨rfl, rfl⟩ | ⟨p, q, rfl, rfl, g1⟩ <;> rcases lowO_spec h2 with ⟨rfl, rfl⟩ | ⟨p2, q2, rfl, rfl, g2⟩
  · exact ⟨by simp, by simp, (fun y v r h => by cases h), (fun y v r _ h => by cases h), (fun x y u v r h => by cases h)⟩
  · obtain ⟨v, rfl, k1⟩ := vals1 hv
    exact ⟨by simp, by simp, (fun y v r h => by cases h), (fun y v' r _ h hvs => by cases h; cases hvs; exact ev_rel hr g2 k1), (fun x y u v r h => by cases h)⟩
  · obtain ⟨v, rfl, k1⟩ := vals1 hv
    exact ⟨by simp, by simp, (fun y v' r h hvs => by cases h; cases hvs; exact ev_rel hr g1 k1), (fun y v r _ h => by cases h), (fun x y u v r _ h => by cases h)⟩
  · obtain ⟨v, u, rfl, k1, k2⟩ := vals2 hv
    exact ⟨by simp, by simp, (fun y v' r h hvs => by cases h; cases hvs; exact ev_rel hr g1 k1), (fun y v r h => by cases h), (fun x y u v r h h' hvs => by cases h; cases h'; cases hvs; exact ev_rel hr g2 k2)⟩
theorem partsOf_rel (hr : Rel Γ B S ρ ⟨tm, own⟩ a w) {f : Nat → Option (Nat × Nat)} : ∀ {ps : List (Nat × Operand)} {l : List (Nat × Nat × Opd)} {vs : List V}, partsOf f ps = some l → Vals Γ tm (l.map (·.2.2)) vs →
    vs.length = ps.length ∧ ∀ (i : Nat) (p : Nat × Operand) (v : V), ps[i]? = some p → vs[i]? = some v → RelV S w ρ own v (a.eval p.2)
  | [], l, vs, h, hv => by
    simp [partsOf] at h; subst h
    rw [vals_nil hv]; exact ⟨rfl, fun i x v hx => by simp at hx⟩
  | p :: ps, l, vs, h, hv => by
    simp only [partsOf] at h
    split at h
    · rename_i q y ys h1 h2 h3
      split at h
      · cases h
      · cases h
        obtain ⟨v, r, rfl, g1, g2⟩ := vals_cons hv
        obtain ⟨k1, k2⟩ := partsOf_rel hr h3 g2
        refine ⟨by simp [k1], fun i x' v' hx' hv' => ?_⟩
        cases i with
        | zero => simp at hx' hv'; subst hx' hv'; exact ev_rel hr h2 g1
        | succ i => exact k2 i x' v' (by simpa using hx') (by simpa using hv')
    · cases h
theorem sameO_eval {x y : Operand} (h : sameO x y = true) : a.eval x = a.eval y := by
  unfold sameO at h
  split at h
  · simp at h; subst h; rfl
  · simp at h; subst h; rfl
  · cases h
theorem map_some {α β : Type} {x : Option α} {f : α → β} {y : β} (h : x.map f = some y) : ∃ z, x = some z ∧ y = f z := by
  cases x with
  | none => simp at h
  | some x => exact ⟨x, rfl, by simpa using h.symm⟩

theorem i64B_spec {t : TypeId} (h : i64B P t = true) : P.underlying t = some (.int .i64) := by
  unfold i64B at h
  split at h
  · assumption
  · cases h
def isCall : MK → Bool
  | .call _ _ _ => true
  | _ => false
theorem step_call1 (hr : Rel Γ B S ρ ⟨tm, own⟩ a w) {c : Call} {mk : MK} {base : Nat} {vs : List V} (hl : lowCall P o c = some mk) (hnc : isCall mk = false) (ho : o.op = .call c) (hv : Vals Γ tm (opds mk) vs) (h : run dr (prog base mk vs) own log K) : Did P Γ B o a w tm K := by
  unfold lowCall at hl
  split at hl
  · split at hl
    · cases hl; simp [isCall] at hnc
    · cases hl
  · rename_i b hc
    split at hl
    · rename_i x t ha ht
      have ha' : c.args = #[x] := Array.toList_inj.1 (by simpa using ha)
      have ht' : c.argTypes = #[t] := Array.toList_inj.1 (by simpa using ht)
      split at hl
      · rename_i x' h1 h2
        cases hl
        obtain ⟨v, rfl, e⟩ := vals1 hv
        exact op_lens hr (ev_rel hr h2 e) hc ha' ht' h1 ho h
      · rename_i e x' h1 h2
        cases hl
        obtain ⟨v, rfl, e⟩ := vals1 hv
        exact op_len hr (ev_rel hr h2 e) hc ha' ht' h1 ho h
      · rename_i n e x' h1 h2
        cases hl
        obtain ⟨v, rfl, e⟩ := vals1 hv
        simp only [evF, Option.some.injEq] at e
        subst e
        exact did_val h hr (u := .int .i64 n) (.t _ _ (.int _ _)) (by simp [execOp, ho, resolve, hc, ha', ht', invoke, builtin, Builtin.len_, underlying, h1, goInt])
      · cases hl
    · rename_i x t ha ht
      have ha' : c.args = #[x] := Array.toList_inj.1 (by simpa using ha)
      have ht' : c.argTypes = #[t] := Array.toList_inj.1 (by simpa using ht)
      split at hl
      · rename_i e x' h1 h2
        cases hl
        obtain ⟨v, rfl, e⟩ := vals1 hv
        exact op_capn hr (ev_rel hr h2 e) hc ha' ht' h1 ho h
      · cases hl
    · rename_i x t ha ht
      have ha' : c.args = #[x] := Array.toList_inj.1 (by simpa using ha)
      have ht' : c.argTypes = #[t] := Array.toList_inj.1 (by simpa using ht)
      split at hl
      · rename_i e x' h1 h2
        split at hl
        · rename_i i z hi hz
          split at hl
          · cases hl
          · rename_i hn
            split at hl
            · rename_i hfl
              cases hl
              obtain ⟨v, rfl, e1⟩ := vals1 hv
              unfold flatB at hfl
              rw [Bool.and_eq_true] at hfl
              obtain ⟨q1, q2⟩ := hfl
              have hones : ∀ c ∈ z.cells, c.one = true := fun c hc => List.all_eq_true.1 q2 c hc
              have hf : z.one = true ∨ ∃ cs, z = .agg cs := by
                cases z <;> first
                  | exact .inl rfl
                  | exact .inr ⟨_, rfl⟩
                  | (simp at q1)
              exact op_clr hr (ev_rel hr h2 e1) hc ha' ht' h1 hi hz (fun h => hn (.inl h)) (by
                  by_cases hq : z.cells.length = i.size
                  · exact hq
                  · exact (hn (.inr hq)).elim) hf hones ho h
            · cases hl
        · cases hl
      · cases hl
    · rename_i x y t u ha ht
      have ha' : c.args = #[x, y] := Array.toList_inj.1 (by simpa using ha)
      have ht' : c.argTypes = #[t, u] := Array.toList_inj.1 (by simpa using ht)
      split at hl
      · rename_i e e2 x' y' h1 h2 h3 h4
        split at hl
        · rename_i i hi
          split at hl
          · cases hl
          · rename_i hn
            cases hl
            obtain ⟨v, u, rfl, e1, e2⟩ := vals2 hv
            exact op_cpy hr (ev_rel hr h3 e1) (ev_rel hr h4 e2) hc ha' ht' h1 hi hn ho h
        · cases hl
      · cases hl
    · rename_i _ x y ha
      have ha' : c.args = #[x, y] := Array.toList_inj.1 (by simpa using ha)
      split at hl
      · rename_i x' y' h1 h2
        cases hl
        obtain ⟨v, u, rfl, e1, e2⟩ := vals2 hv
        exact op_mx hr (ev_rel hr h1 e1) (ev_rel hr h2 e2) hc ha' ho h
      · cases hl
    · rename_i _ x y ha
      have ha' : c.args = #[x, y] := Array.toList_inj.1 (by simpa using ha)
      split at hl
      · rename_i x' y' h1 h2
        cases hl
        obtain ⟨v, u, rfl, e1, e2⟩ := vals2 hv
        exact op_mn hr (ev_rel hr h1 e1) (ev_rel hr h2 e2) hc ha' ho h
      · cases hl
    · rename_i x y t u ha ht
      have ha' : c.args = #[x, y] := Array.toList_inj.1 (by simpa using ha)
      split at hl
      · rename_i e e2 x' y' h1 h2 h3 h4
        split at hl
        · cases hl
        · have ht' : c.argTypes = #[t, u] := Array.toList_inj.1 (by simpa using ht)
          split at hl
          · rename_i i hi
            split at hl
            · rename_i z hz
              split at hl
              · cases hl
              · rename_i hn
                cases hl
                obtain ⟨v, u, rfl, e1, e2⟩ := vals2 hv
                exact op_app hr (ev_rel hr h3 e1) (ev_rel hr h4 e2) hc ha' ht' ho h1 h2 hi hz (by
                  by_cases hq : z.cells.size = i.size
                  · exact hq
                  · exact (hn (.inr (.inr (.inl hq)))).elim) (by omega) (by omega) h
            · cases hl
          · cases hl
      · rename_i e kn x' y' h1 h2 h3 h4
        have ht' : c.argTypes = #[t, u] := Array.toList_inj.1 (by simpa using ht)
        split at hl
        · rename_i i z hi hz
          split at hl
          · cases hl
          · rename_i hn
            split at hl
            · rename_i hfl
              cases hl
              obtain ⟨v, u', rfl, e1, e2⟩ := vals2 hv
              unfold flatB at hfl
              rw [Bool.and_eq_true] at hfl
              obtain ⟨q1, q2⟩ := hfl
              have hones : ∀ c ∈ z.cells, c.one = true := fun c hc => List.all_eq_true.1 q2 c hc
              have hf : z.one = true ∨ ∃ cs, z = .agg cs := by
                cases z <;> first
                  | exact .inl rfl
                  | exact .inr ⟨_, rfl⟩
                  | (simp at q1)
              exact op_appz hr (ev_rel hr h3 e1) (ev_rel hr h4 e2) hc ha' ht' ho h1 h2 hi hz (by
                  by_cases hq : z.cells.length = i.size
                  · exact hq
                  · exact (hn (.inr (.inr (.inl hq)))).elim) hf hones (by omega) (by omega) h
            · cases hl
        · cases hl
      · cases hl
    · cases hl
  · cases hl

theorem op_mki (hr : Rel Γ B S ρ ⟨tm, own⟩ a w) {x : Operand} {t : TypeId} {v : V} (hx : RelV S w ρ own v (a.eval x)) (hc : P.concrete t = true) (ho : o.op = .makeInterface t x) {base : Nat} {x' : Opd} (h : run dr (prog base (.mki t x') [v]) own log K) : Did P Γ B o a w tm K := by
  simp only [prog] at h
  split at h
  · exact did_val h hr (.t _ _ (.ifc _ _ _ hx.t_of)) (by simp [execOp, ho, run_makeInterface _ _ _ hc])
  · exact h.elim
theorem tas_hold {P : Program} {w : World} {x : Value} {xt t : TypeId} {ok : Bool} (hc : P.concrete t = true) : (Instr.typeAssert (.iface t x) xt t ok).run P w = .ok (if ok then .tuple #[x, .bool true] else x) w := by
  unfold Program.concrete at hc
  unfold Instr.typeAssert
  simp only [underlying, Sem.run_bind]
  split at hc
  · cases hc
  · cases hc
  · rename_i h1 h2
    cases hu : P.underlying t with
    | none => exact absurd hu h2
    | some d =>
      cases d <;> first | exact absurd hu (h1 _) | (cases ok <;> simp [Sem.run, hu])
theorem tas_fail {P : Program} {w : World} {u : Value} {xt t : TypeId} (hc : P.concrete t = true) (hu : u = .nilIface ∨ ∃ t' x, u = .iface t' x ∧ t' ≠ t) {i : TypeInfo} {z : Value} (q1 : P.info? t = some i) (q2 : i.zero = some z) :
    (Instr.typeAssert u xt t true).run P w = .ok (.tuple #[z, .bool false]) w := by
  unfold Program.concrete at hc
  unfold Instr.typeAssert
  split at hc
  · cases hc
  · cases hc
  · rename_i h1 h2
    cases hd : P.underlying t with
    | none => exact absurd hd h2
    | some d =>
      rcases hu with rfl | ⟨t', x, rfl, hne⟩
      · cases d <;> first | exact absurd hd (h1 _) | simp [underlying, hd, zeroValue, typeInfo, q1, q2]
      · cases d <;> first | exact absurd hd (h1 _) | simp [underlying, hd, zeroValue, typeInfo, q1, q2, hne]
theorem op_tas (hr : Rel Γ B S ρ ⟨tm, own⟩ a w) {x : Operand} {xt t : TypeId} {z : T} {ok : Bool} {v : V} (hx : RelV S w ρ own v (a.eval x)) (hc : P.concrete t = true) (hz : zeroT P t = some z) (ho : o.op = .typeAssert x xt t ok) {base : Nat} {x' : Opd}
    (h : run dr (prog base (.tas t z ok x') [v]) own log K) : Did P Γ B o a w tm K := by
  obtain ⟨iz, zv, q1, q2, q3⟩ := zeroT_spec hz
  simp only [prog] at h
  have tupR : ∀ (y : T) (u : Value) (b : Bool), RelT S w y u → RelV S w ρ own (.t (.tup [y, .bool b])) (.tuple #[u, .bool b]) := fun y u b hy => .t _ _ (.tup _ _ (by simp) fun i c v hc hv => by
    match i with
    | 0 => simp at hc hv; subst hc hv; exact hy
    | 1 => simp at hc hv; subst hc hv; exact .bool _
    | i + 2 => simp at hc)
  split at h
  · rename_i t' y
    have hrel := hx.t_of
    generalize hux : a.eval x = ux at hrel
    cases hrel with
    | ifc _ _ u hy =>
      split at h
      · rename_i e
        obtain rfl := Nat.eq_of_beq_eq_true e
        exact did_val h hr (tupR y u true hy) (by simp [execOp, ho, hux, tas_hold hc])
      · rename_i e
        have hne : t' ≠ t := by rw [← Bool.not_eq_true, Nat.beq_eq] at e; exact e
        exact did_val h hr (tupR z zv false (q3 S w)) (by simp [execOp, ho, hux, tas_fail hc (.inr ⟨_, _, rfl, hne⟩) q1 q2])
  · have hrel := hx.t_of
    generalize hux : a.eval x = ux at hrel
    cases hrel
    exact did_val h hr (tupR z zv false (q3 S w)) (by simp [execOp, ho, hux, tas_fail hc (.inl rfl) q1 q2])
  · rename_i t' y
    have hrel := hx.t_of
    generalize hux : a.eval x = ux at hrel
    cases hrel with
    | ifc _ _ u hy =>
      unfold natP at h
      split at h
      · rename_i e
        obtain rfl := Nat.eq_of_beq_eq_true e
        exact did_val h hr (.t _ _ hy) (by simp [execOp, ho, hux, tas_hold hc])
      · exact h.elim
  · exact h.elim
theorem op_isi (hr : Rel Γ B S ρ ⟨tm, own⟩ a w) {x : Operand} {op : BinOp} {neg : Bool} {t yt : TypeId} {ms : Array (String × TypeId)} {v : V} (hx : RelV S w ρ own v (a.eval x)) (ht : P.underlying t = some (.interface ms))
    (hop : op = if neg then .neq else .eql) (ho : o.op = .binOp op t x (.const .nilIface) yt) {base : Nat} {x' : Opd} (h : run dr (prog base (.isi neg x') [v]) own log K) : Did P Γ B o a w tm K := by
  have hm : P.methodsAt t = ms := by unfold Program.methodsAt; rw [ht]
  have ht' : P.underlying t = some (.interface (P.methodsAt t)) := by rw [hm]; exact ht
  have e2 : a.eval (.const .nilIface) = .nilIface := rfl
  simp only [prog] at h
  split at h
  · have hrel := hx.t_of
    generalize hux : a.eval x = ux at hrel
    cases hrel
    refine did_val h hr (u := .bool (!neg)) (.t _ _ (.bool _)) ?_
    cases neg
    · simp only [if_false, Bool.false_eq_true] at hop
      subst hop
      simp [execOp, ho, hux, e2, eqGuard_nil_constR, run_eql_nil_nil _ _ ht']
    · simp only [if_true] at hop
      subst hop
      simp [execOp, ho, hux, e2, eqGuard_nil_constR, run_neq_nil_nil _ _ ht']
  · have hrel := hx.t_of
    generalize hux : a.eval x = ux at hrel
    cases hrel with
    | ifc _ _ u hy =>
      refine did_val h hr (u := .bool neg) (.t _ _ (.bool _)) ?_
      cases neg
      · simp only [if_false, Bool.false_eq_true] at hop
        subst hop
        simp only [execOp, ho, hux, e2, Sem.run_bind, run_eqGuard_plain .eql t x (.const .nilIface) (.iface _ u) .nilIface (by simp) (by simp), Result.andThen_ok]
        simp [run_eql_held_nil _ _ _ _ ht']
      · simp only [if_true] at hop
        subst hop
        simp only [execOp, ho, hux, e2, Sem.run_bind, run_eqGuard_plain .neq t x (.const .nilIface) (.iface _ u) .nilIface (by simp) (by simp), Result.andThen_ok]
        simp [run_neq_held_nil _ _ _ _ ht']
  · exact h.elim

theorem step_op0 (hr : Rel Γ B S ρ ⟨tm, own⟩ a w) {mk : MK} {base : Nat} {vs : List V} (hl : lowOp0 P o = some mk) (hnc : isCall mk = false) (hv : Vals Γ tm (opds mk) vs) (h : run dr (prog base mk vs) own log K) : Did P Γ B o a w tm K := by
  unfold lowOp0 at hl
  split at hl
  · rename_i x ho
    obtain ⟨y, h1, rfl⟩ := map_some hl
    obtain ⟨v, rfl, e⟩ := vals1 hv
    exact did_val h hr (ev_rel hr h1 e) (by simp [execOp, ho])
  · rename_i x ho
    obtain ⟨y, h1, rfl⟩ := map_some hl
    obtain ⟨v, rfl, e⟩ := vals1 hv
    exact did_val h hr (ev_rel hr h1 e) (by simp [execOp, ho])
  · rename_i c x y ho
    split at hl
    · rename_i c' x' y' h1 h2 h3
      cases hl
      obtain ⟨vc, v, u, rfl, e1, e2, e3⟩ := vals3 hv
      have hc := ev_rel hr h1 e1
      simp only [prog] at h
      split at h
      · have hb := RelT.bool_of hc.t_of
        rcases br_elim h with ⟨rfl, h9⟩ | ⟨rfl, h9⟩
        · exact did_val h9 hr (ev_rel hr h2 e2) (by simp [execOp, ho, hb, asBool])
        · exact did_val h9 hr (ev_rel hr h3 e3) (by simp [execOp, ho, hb, asBool])
      · exact h.elim
    · cases hl
  · rename_i t ho
    split at hl
    · rename_i z hz
      split at hl
      · rename_i hc
        simp only [Bool.and_eq_true] at hc
        cases hl
        rw [vals_nil hv] at h
        exact op_alloca hr hz hc.2 ho h
      · cases hl
        rw [vals_nil hv] at h
        exact op_alloc hr hz ho h
    · cases hl
  · rename_i t x ho
    split at hl
    · obtain ⟨y, h1, rfl⟩ := map_some hl
      obtain ⟨v, rfl, e⟩ := vals1 hv
      have hx := ev_rel hr h1 e
      simp only [prog] at h
      split at h
      · exact op_boxa hr hx.t_of ho h
      · exact h.elim
    · obtain ⟨y, h1, rfl⟩ := map_some hl
      obtain ⟨v, rfl, e⟩ := vals1 hv
      exact op_box hr (ev_rel hr h1 e) ho h
  · rename_i t x ho
    split at hl
    · rename_i n x' h1 h2
      cases hl
      obtain ⟨v, rfl, e⟩ := vals1 hv
      exact op_ld hr (ev_rel hr h2 e) h1 ho h
    · cases hl
  · rename_i t x y ho
    split at hl
    · rename_i i x' y' h1 h2 h3
      split at hl
      · cases hl
      · rename_i h0
        cases hl
        obtain ⟨v, u, rfl, e1, e2⟩ := vals2 hv
        exact op_st hr (ev_rel hr h2 e1) (ev_rel hr h3 e2) h1 h0 ho h
    · cases hl
  · rename_i x ho
    obtain ⟨y, h1, rfl⟩ := map_some hl
    obtain ⟨v, rfl, e⟩ := vals1 hv
    exact op_nilc hr (ev_rel hr h1 e) ho h
  · rename_i s x f ho
    split at hl
    · rename_i fs h1
      split at hl
      · rename_i fl h2
        split at hl
        · rename_i i h3
          split at hl
          · cases hl
          · rename_i h4
            obtain ⟨y, h5, rfl⟩ := map_some hl
            obtain ⟨v, rfl, e⟩ := vals1 hv
            exact op_fa hr (ev_rel hr h5 e) h1 h2 h3 h4 ho h
        · cases hl
      · cases hl
    · cases hl
  · rename_i s x f ho
    split at hl
    · rename_i fs h1
      split at hl
      · rename_i fl h2
        split at hl
        · rename_i n x' h3 h4
          cases hl
          obtain ⟨v, rfl, e⟩ := vals1 hv
          exact op_fld hr (ev_rel hr h4 e) h1 h2 h3 ho h
        · cases hl
      · cases hl
    · cases hl
  · rename_i t x i ho
    split at hl
    · rename_i len e h1
      split at hl
      · rename_i ti x' i' h2 h3 h4
        split at hl
        · rename_i ki z
          split at hl
          · rename_i hz
            cases hl
            obtain ⟨v, rfl, e⟩ := vals1 hv
            have hi := RelT.int_of (ev_rel hr h4 (v := .t (.int ki z)) rfl).t_of
            exact op_ixk hr (ev_rel hr h3 e) hi hz h1 h2 ho h
          · cases hl
        · cases hl
          obtain ⟨v, u, rfl, e1, e2⟩ := vals2 hv
          exact op_ixa hr (ev_rel hr h3 e1) (ev_rel hr h4 e2) h1 h2 ho h
      · cases hl
    · rename_i e h1
      split at hl
      · rename_i ti x' i' h2 h3 h4
        cases hl
        obtain ⟨v, u, rfl, e1, e2⟩ := vals2 hv
        exact op_ixs hr (ev_rel hr h3 e1) (ev_rel hr h4 e2) h1 h2 ho h
      · cases hl
    · cases hl
  · rename_i t x i ho
    split at hl
    · rename_i h1
      split at hl
      · rename_i x' i' h3 h4
        cases hl
        obtain ⟨v, u, rfl, e1, e2⟩ := vals2 hv
        exact op_ixstr hr (ev_rel hr h3 e1) (ev_rel hr h4 e2) h1 ho h
      · cases hl
    · rename_i n e h1
      split at hl
      · rename_i ti d x' i' h2 h3 h4 h5
        split at hl
        · rename_i h6
          split at hl
          · cases hl
          · rename_i h7
            cases hl
            obtain ⟨v, u, rfl, e1, e2⟩ := vals2 hv
            exact op_ixv hr (ev_rel hr h4 e1) (ev_rel hr h5 e2) h1 h2 h3 h6 (by simpa using h7) ho h
        · cases hl
      · cases hl
    · cases hl
  · rename_i op t x y yt ho
    split at hl
    · rename_i d x' h1 h2
      split at hl
      · rename_i hi
        obtain ⟨ms, rfl, rfl⟩ : ∃ ms, d = .interface ms ∧ y = .const .nilIface := by
          unfold ifcNil at hi
          split at hi
          · exact ⟨_, rfl, rfl⟩
          · cases hi
        split at hl
        · cases hl
          obtain ⟨v, rfl, e⟩ := vals1 hv
          exact op_isi (neg := false) hr (ev_rel hr h2 e) h1 rfl ho h
        · cases hl
          obtain ⟨v, rfl, e⟩ := vals1 hv
          exact op_isi (neg := true) hr (ev_rel hr h2 e) h1 rfl ho h
        · cases hl
      split at hl
      · rename_i kd hkd
        obtain ⟨cv, rfl, hk⟩ : ∃ cv, y = .const cv ∧ nilK d cv = some kd := by
          split at hkd
          · exact ⟨_, rfl, hkd⟩
          · cases hkd
        split at hl
        · cases hl
          obtain ⟨v, rfl, e⟩ := vals1 hv
          exact op_isn (neg := false) hr (ev_rel hr h2 e) h1 hk rfl ho h
        · cases hl
          obtain ⟨v, rfl, e⟩ := vals1 hv
          exact op_isn (neg := true) hr (ev_rel hr h2 e) h1 hk rfl ho h
        · cases hl
      · split at hl
        · cases hl
        · rename_i y' h3
          split at hl
          · rename_i hd
            split at hl
            · cases hl
            · rename_i hg
              split at hl
              · rename_i sh hs
                split at hl
                · cases hl
                  obtain ⟨v, u, rfl, e1, e2⟩ := vals2 hv
                  exact op_eqa (neg := false) hr (ev_rel hr h2 e1) (ev_rel hr h3 e2) h1 hd (by simpa using hg) hs rfl ho h
                · cases hl
                  obtain ⟨v, u, rfl, e1, e2⟩ := vals2 hv
                  exact op_eqa (neg := true) hr (ev_rel hr h2 e1) (ev_rel hr h3 e2) h1 hd (by simpa using hg) hs rfl ho h
                · cases hl
              · cases hl
          · split at hl
            · cases hl
              obtain ⟨v, u, rfl, e1, e2⟩ := vals2 hv
              exact op_bin hr (ev_rel hr h2 e1) (ev_rel hr h3 e2) ho h
            · cases hl
              obtain ⟨v, u, rfl, e1, e2⟩ := vals2 hv
              exact op_bin hr (ev_rel hr h2 e1) (ev_rel hr h3 e2) ho h
            · cases hl
              obtain ⟨v, u, rfl, e1, e2⟩ := vals2 hv
              exact op_binb hr (ev_rel hr h2 e1) (ev_rel hr h3 e2) h1 ho h
            · cases hl
    · cases hl
  · rename_i op t x ho
    obtain ⟨y, h1, rfl⟩ := map_some hl
    obtain ⟨v, rfl, e⟩ := vals1 hv
    exact op_un hr (ev_rel hr h1 e) ho h
  · rename_i s d x ho
    split at hl
    · rename_i j k x' h1 h2 h3
      cases hl
      obtain ⟨v, rfl, e⟩ := vals1 hv
      exact op_conv hr (ev_rel hr h3 e) h1 h2 ho h
    · rename_i x' h1 h2 h3
      cases hl
      obtain ⟨v, rfl, e⟩ := vals1 hv
      exact op_convs hr (ev_rel hr h3 e) h1 h2 ho h
    · rename_i e x' h1 h2 h3
      split at hl
      · rename_i h4
        cases hl
        obtain ⟨v, rfl, e⟩ := vals1 hv
        exact op_cvb hr (ev_rel hr h3 e) h1 h2 h4 ho h
      · cases hl
    · cases hl
  · rename_i t ps ho
    split at hl
    · rename_i z f h1 h2
      obtain ⟨l, h3, rfl⟩ := map_some hl
      obtain ⟨k1, k2⟩ := partsOf_rel hr h3 hv
      exact op_bld hr h1 h2 h3 k1 k2 ho h
    · cases hl
  · rename_i t n ps ho
    split at hl
    · rename_i e h1
      split at hl
      · rename_i ti xs h2 h3
        split at hl
        · rename_i z h4
          split at hl
          · rename_i h5
            split at hl
            · rename_i h6
              cases hl
              obtain ⟨k1, k2⟩ := lowXs_rel hr h3 hv
              exact op_bslt hr h1 h2 h4 h5 h6 (by simpa using k1) (fun i p v hp hv' => k2 i p.2 v (by rw [List.getElem?_map, hp]; rfl) hv') ho h
            · cases hl
          · cases hl
        · cases hl
      · cases hl
    · cases hl
  · rename_i t x lo hi mx ho
    split at hl
    · split at hl
      · rename_i x' lo' hi' h1 h2 h3 h4
        cases hl
        obtain ⟨v, r, rfl, e, hb⟩ := vals_cons hv
        exact op_slstr hr (ev_rel hr h1 e) (bnds_of hr h2 h3 hb) h4 ho h
      · rename_i x' lo' hi' e h1 h2 h3 h4
        split at hl
        · rename_i ti h5
          cases hl
          obtain ⟨v, r, rfl, e, hb⟩ := vals_cons hv
          exact op_sll hr (ev_rel hr h1 e) (bnds_of hr h2 h3 hb) h4 h5 ho h
        · cases hl
      · rename_i x' lo' hi' n e h1 h2 h3 h4
        split at hl
        · rename_i ti h5
          cases hl
          obtain ⟨v, r, rfl, e, hb⟩ := vals_cons hv
          exact op_slp hr (ev_rel hr h1 e) (bnds_of hr h2 h3 hb) h4 h5 ho h
        · cases hl
      · cases hl
    · rename_i m
      split at hl
      · rename_i hh x' m' e h1 h2 h3
        split at hl
        · rename_i ti hh' h5 h6
          cases hl
          obtain ⟨v, u, t, rfl, e1, e2, e3⟩ := vals3 hv
          exact op_clip hr (ev_rel hr h1 e1) (ev_rel hr h6 e2) (ev_rel hr h2 e3) h3 h5 ho h
        · cases hl
      · cases hl
  · rename_i t l c ho
    split at hl
    · rename_i hs
      split at hl
      · rename_i e l' h1 h2
        split at hl
        · rename_i i z h3 h4
          split at hl
          · cases hl
          · rename_i hn
            split at hl
            · rename_i hfl
              cases hl
              obtain ⟨v, rfl, e⟩ := vals1 hv
              unfold flatB at hfl
              rw [Bool.and_eq_true] at hfl
              obtain ⟨q1, q2⟩ := hfl
              have hones : ∀ c ∈ z.cells, c.one = true := fun c hc => List.all_eq_true.1 q2 c hc
              have hf : z.one = true ∨ ∃ cs, z = .agg cs := by
                cases z <;> first
                  | exact .inl rfl
                  | exact .inr ⟨_, rfl⟩
                  | (simp at q1)
              refine op_mks hr (ev_rel hr h2 e) (sameO_eval hs).symm h1 h3 h4 (by omega) ?_ hf hones ho h (by omega)
              by_cases hq : z.cells.length = i.size
              · exact hq
              · exact (hn (.inr (.inr (.inl hq)))).elim
            · cases hl
        · cases hl
      · cases hl
    · cases hl
  · rename_i f xs ys ho
    split at hl
    · rename_i xs' ys' h1 h2
      cases hl
      have hv' : Vals Γ tm (xs' ++ ys') vs := hv
      have hxl : xs'.length = xs.toList.length := lowXs_len h1
      have v1 : Vals Γ tm xs' (vs.take xs'.length) := by
        refine ⟨by have := hv'.1; simp at this; simp; omega, fun i x hx => ?_⟩
        obtain ⟨v, g1, g2⟩ := hv'.2 i x (by
          have hlt : i < xs'.length := by
            rcases Nat.lt_or_ge i xs'.length with h | h
            · exact h
            · rw [List.getElem?_eq_none h] at hx; cases hx
          rw [List.getElem?_append_left hlt]; exact hx)
        have hlt : i < xs'.length := by
          rcases Nat.lt_or_ge i xs'.length with h | h
          · exact h
          · rw [List.getElem?_eq_none h] at hx; cases hx
        exact ⟨v, by rw [List.getElem?_take, if_pos hlt]; exact g1, g2⟩
      have v2 : Vals Γ tm ys' (vs.drop xs'.length) := by
        refine ⟨by have := hv'.1; simp at this; simp; omega, fun i x hx => ?_⟩
        obtain ⟨v, g1, g2⟩ := hv'.2 (xs'.length + i) x (by rw [List.getElem?_append_right (by omega)]; simpa using hx)
        exact ⟨v, by rw [List.getElem?_drop]; exact g1, g2⟩
      obtain ⟨k1, k2⟩ := lowXs_rel hr h1 v1
      obtain ⟨k3, k4⟩ := lowXs_rel hr h2 v2
      have hsz : xs'.length = xs.size := by simpa using hxl
      refine op_mkf hr hsz ?_ (fun i x v hx hv2 => ?_) (fun i x v hx hv2 => ?_) ho h
      · simp at k1 k3; omega
      · have hlt : i < xs'.length := by
          rw [hsz]
          rcases Nat.lt_or_ge i xs.size with h | h
          · exact h
          · rw [Array.getElem?_eq_none h] at hx; cases hx
        exact k2 i x v (by simpa using hx) (by rw [List.getElem?_take, if_pos hlt]; exact hv2)
      · exact k4 i x v (by simpa using hx) (by rw [List.getElem?_drop, hsz]; exact hv2)
    · cases hl
  · rename_i t r ho
    split at hl
    · rename_i kt et h1
      cases hl
      rw [vals_nil hv] at h
      exact op_mkm hr h1 ho h
    · cases hl
  · rename_i t m k v ho
    split at hl
    · rename_i kt et m' k' v' h1 h2 h3 h4
      split at hl
      · rename_i kk h5
        cases hl
        obtain ⟨p, q, r, rfl, e1, e2, e3⟩ := vals3 hv
        exact op_ins hr (ev_rel hr h2 e1) (ev_rel hr h3 e2) (ev_rel hr h4 e3) h1 h5 (.inl ⟨rfl, _, rfl⟩) ho h
      · rename_i h5
        cases hl
        obtain ⟨p, q, r, rfl, e1, e2, e3⟩ := vals3 hv
        exact op_ins hr (ev_rel hr h2 e1) (ev_rel hr h3 e2) (ev_rel hr h4 e3) h1 h5 (.inr ⟨rfl, rfl⟩) ho h
      · cases hl
    · cases hl
  · rename_i t m k ok ho
    split at hl
    · rename_i kt et m' k' h1 h2 h3
      split at hl
      · rename_i hb
        simp only [Bool.and_eq_true, Bool.not_eq_true'] at hb
        obtain ⟨⟨b1, b2⟩, b3⟩ := hb
        subst b3
        split at hl
        · rename_i n hz
          split at hl
          · rename_i hn
            subst hn
            cases hl
            obtain ⟨p, q, rfl, e1, e2⟩ := vals2 hv
            exact op_lkpi hr (ev_rel hr h2 e1) (ev_rel hr h3 e2) h1 (i64B_spec b1) hz ho h
          · cases hl
        · cases hl
      · split at hl
        · rename_i kk z h4 h5
          cases hl
          obtain ⟨p, q, rfl, e1, e2⟩ := vals2 hv
          exact op_lkp hr (ev_rel hr h2 e1) (ev_rel hr h3 e2) h1 h4 (.inl ⟨rfl, _, rfl⟩) h5 ho h
        · rename_i z h4 h5
          cases hl
          obtain ⟨p, q, rfl, e1, e2⟩ := vals2 hv
          exact op_lkp hr (ev_rel hr h2 e1) (ev_rel hr h3 e2) h1 h4 (.inr ⟨rfl, rfl⟩) h5 ho h
        · cases hl
    · cases hl
  · rename_i t m k v ho
    split at hl
    · rename_i kt et m' k' v' h1 h2 h3 h4
      split at hl
      · rename_i hb
        rw [Bool.and_eq_true] at hb
        cases hl
        obtain ⟨p, q, r, rfl, e1, e2, e3⟩ := vals3 hv
        exact op_updi hr (ev_rel hr h2 e1) (ev_rel hr h3 e2) (ev_rel hr h4 e3) h1 (i64B_spec hb.1) ho h
      · cases hl
    · cases hl
  · rename_i x i ho
    obtain ⟨y, h1, rfl⟩ := map_some hl
    obtain ⟨v, rfl, e⟩ := vals1 hv
    exact op_ext hr (ev_rel hr h1 e) ho h
  · rename_i t x ho
    split at hl
    · rename_i hc
      obtain ⟨y, h1, rfl⟩ := map_some hl
      obtain ⟨v, rfl, e⟩ := vals1 hv
      exact op_mki hr (ev_rel hr h1 e) hc ho h
    · cases hl
  · rename_i x xt t ok ho
    split at hl
    · rename_i hc
      replace hc := (Bool.and_eq_true _ _ ▸ hc).1
      split at hl
      · rename_i z hz
        obtain ⟨y, h1, rfl⟩ := map_some hl
        obtain ⟨v, rfl, e⟩ := vals1 hv
        exact op_tas hr (ev_rel hr h1 e) hc hz ho h
      · cases hl
    · cases hl
  · rename_i x ho
    obtain ⟨y, h1, rfl⟩ := map_some hl
    obtain ⟨v, rfl, e⟩ := vals1 hv
    simp only [prog] at h
    exact h.elim
  · rename_i c ho
    exact step_call1 hr hl hnc ho hv h
  · cases hl
theorem step_op (hr : Rel Γ B S ρ ⟨tm, own⟩ a w) {mk : MK} {base : Nat} {vs : List V} (hl : lowOp P o = some mk) (hnc : isCall mk = false) (hv : Vals Γ tm (opds mk) vs) (h : run dr (prog base mk vs) own log K) : Did P Γ B o a w tm K := by
  unfold lowOp at hl
  split at hl
  · rename_i k hk
    cases hl
    exact step_op0 hr hk hnc hv h
  · cases hl
    rw [vals_nil hv] at h
    exact h.elim
end
end Go.Nx
end
