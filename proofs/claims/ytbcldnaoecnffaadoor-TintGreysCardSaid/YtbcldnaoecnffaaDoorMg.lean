/-
  EACH STEP OF THE MACHINE IS A STEP OF THE PROGRAM.
-/
import Derived.Test.YtbcldnaoecnffaaDoorMf
set_option linter.unusedVariables false
namespace Go.Mx
open Go.RowKit

theorem ofC_rel (S : Cells) (w : World) : ∀ n, (∀ v x, ofC n v = some x → RelT S w x v) ∧
    (∀ l xs, ofCs n l = some xs → l.length = xs.length ∧ ∀ (i : Nat) (c : T) (u : Value), xs[i]? = some c → l[i]? = some u → RelT S w c u) := by
  intro n
  induction n with
  | zero => exact ⟨fun v x h => by simp [ofC] at h, fun l xs h => by simp [ofCs] at h⟩
  | succ n ih =>
    refine ⟨fun v x h => ?_, fun l xs h => ?_⟩
    · unfold ofC at h
      split at h <;> try (cases h <;> first | exact .bool _ | exact .int _ _ | exact .str _ | exact .nils | exact .nilfn | exact .nilif | exact .nilptr | exact .nilmap)
      · rename_i cs
        cases e : ofCs n cs.toList with
        | none => simp [e] at h
        | some xs =>
          simp [e] at h; subst h
          obtain ⟨h1, h2⟩ := ih.2 _ _ e
          refine .agg xs cs (by simpa using h1) fun i c u hc hu => h2 i c u hc (by simpa using hu)
    · unfold ofCs at h
      split at h
      · cases h; exact ⟨rfl, fun i c u hc => by simp at hc⟩
      · rename_i v r
        split at h
        · rename_i x ys e1 e2
          cases h
          obtain ⟨h1, h2⟩ := ih.2 _ _ e2
          refine ⟨by simp [h1], fun i c u hc hu => ?_⟩
          cases i with
          | zero => simp at hc hu; subst hc; subst hu; exact ih.1 _ _ e1
          | succ i => exact h2 i c u (by simpa using hc) (by simpa using hu)
        · cases h

def Enter (P : Program) (f : FuncId) : Prop := ∃ fn, P.funcs[f]? = some fn ∧ fn.body.isSome = true ∧ fn.name ≠ "runtime.NumGoroutine"
def GlOk (gl : Nat → Option (List T)) (S : Cells) (w : World) : Prop :=
  ∀ g cs, gl g = some cs → ∀ (i : Nat) (c : T), cs[i]? = some c → S g i ∧ ∃ u, w.cell? ⟨g, i, none⟩ = some u ∧ RelT S w c u
def fresh (S : Cells) (w w' : World) : Cells := fun b o => S b o ∨ (w.heap.size ≤ b ∧ b < w'.heap.size)
/-- WHAT A FUNCTION ANSWERS, in every world. -/
def FnOk (P : Program) (gl : Nat → Option (List T)) (f : FuncId) (vs : List T) (x : T) : Prop :=
  Enter P f ∧ ∀ (S : Cells) (w : World) (args : Array Value), (∀ b o, S b o → b < w.heap.size) → GlOk gl S w → args.size = vs.length →
    (∀ (i : Nat) (c : T) (u : Value), vs[i]? = some c → args[i]? = some u → RelT S w c u) →
    Calls P f args w fun e w' => ∃ v, e = .returned v ∧ RelT (fresh S w w') w' x v ∧ Below w.heap.size w w'
def EnvOk (P : Program) (Γ : Env) : Prop := ∀ f vs x, (Γ.fn f vs = .yes x ∨ ∃ p, Γ.fn f vs = .req p x ∧ p) → FnOk P Γ.gl f vs x
def Good (Γ : Env) (B : Base) (st : St) (a : Act) (w : World) : Prop := ∃ S ρ, Rel Γ B S ρ st a w

section
variable {P : Program} {Γ : Env} {B : Base} {S : Cells} {ρ : Nat → Info} {tm : List V} {own : List (Nat × Blk)} {a : Act} {w : World}

theorem ev_rel (hr : Rel Γ B S ρ ⟨tm, own⟩ a w) {x : Operand} {x' : Opd} {v : V} (hx : lowX x = some x') (hv : evF Γ tm x' = some v) : RelV S w ρ own v (a.eval x) := by
  cases x with
  | tmp t => simp [lowX] at hx; subst hx; exact hr.ev hv
  | const c =>
    simp only [lowX] at hx
    cases e : ofC 400 c with
    | none => simp [e] at hx
    | some y =>
      simp [e] at hx; subst hx
      simp [evF] at hv; subst hv
      exact (ofC_rel S w 400).1 _ _ e
  | global g =>
    simp [lowX] at hx; subst hx
    simp only [evF] at hv
    cases e : Γ.gl g with
    | none => simp [e] at hv
    | some cs =>
      simp [e] at hv; subst hv
      refine ⟨g, 0, rfl, fun i c hc => ?_⟩
      have := hr.gl g cs e i c hc
      simpa using this
  | func f =>
    simp [lowX] at hx; subst hx
    simp [evF] at hv; subst hv
    exact .fn _ [] [] #[] #[] rfl rfl (fun i c u h => by simp at h) (fun i c u h => by simp at h)

variable {o : Oper} {K : St → Prop} {next : Act → World → Prop} {Q : Exit → Act → World → Prop}

theorem fin_val (hn : ∀ st' a' w', K st' → Good Γ B st' a' w' → next a' w') {st : St} {v : V} {u : Value} {S' : Cells} {ρ' : Nat → Info} {w' : World}
    (h : putK st o.dst v K) (hr : Rel Γ B S' ρ' st a w') (hv : RelV S' w' ρ' st.own v u) (hrun : (execOp a.eval o).run P w = .ok (.value u) w') : o.wp P a w next Q := by
  simp only [Oper.wp, hrun, Oper.upon]
  exact hn _ _ _ (putK_elim h).2 ⟨S', ρ', hr.put hv⟩
theorem fin_skip (hn : ∀ st' a' w', K st' → Good Γ B st' a' w' → next a' w') {st : St} {S' : Cells} {ρ' : Nat → Info} {w' : World}
    (h : putK st o.dst (.t .undef) K) (hr : Rel Γ B S' ρ' st a w') (hrun : (execOp a.eval o).run P w = .ok .skip w') : o.wp P a w next Q := by
  simp only [Oper.wp, hrun, Oper.upon]
  exact hn _ _ _ (putK_elim h).2 ⟨S', ρ', hr.put (.tup [] #[] rfl fun i c u h => by simp at h)⟩

theorem RelT.bool_of {S : Cells} {w : World} {b : Bool} {v : Value} (h : RelT S w (.bool b) v) : v = .bool b := by cases h; rfl
theorem RelT.int_of {S : Cells} {w : World} {k : IntKind} {n : Int} {v : Value} (h : RelT S w (.int k n) v) : v = .int k n := by cases h; rfl
theorem RelT.str_of {S : Cells} {w : World} {s : ByteArray} {v : Value} (h : RelT S w (.str s) v) : v = .string s := by cases h; rfl

/-! ### one by one -/
theorem op_mv (hn : ∀ st' a' w', K st' → Good Γ B st' a' w' → next a' w') (hr : Rel Γ B S ρ ⟨tm, own⟩ a w) {x : Operand} {y : Opd} (hx : lowX x = some y)
    (ho : o.op = .move x ∨ o.op = .assign x) (h : stepK Γ o.dst ⟨tm, own⟩ (.mv y) K) : o.wp P a w next Q := by
  obtain ⟨v, hv, h⟩ := evK_elim h
  refine fin_val hn h hr (ev_rel hr hx hv) ?_
  rcases ho with ho | ho <;> simp [execOp, ho]

theorem op_pick (hn : ∀ st' a' w', K st' → Good Γ B st' a' w' → next a' w') (hr : Rel Γ B S ρ ⟨tm, own⟩ a w) {x y z : Operand} {x' y' z' : Opd} (hx : lowX x = some x') (hy : lowX y = some y')
    (hz : lowX z = some z') (ho : o.op = .pick x y z) (h : stepK Γ o.dst ⟨tm, own⟩ (.pick x' y' z') K) : o.wp P a w next Q := by
  obtain ⟨v, hv, h⟩ := evK_elim h
  have hc := ev_rel hr hx hv
  split at h
  · rename_i b
    have hb := RelT.bool_of hc
    rcases brK_elim h with ⟨rfl, h⟩ | ⟨rfl, h⟩
    · obtain ⟨u, hu, h⟩ := evK_elim h
      refine fin_val hn h hr (ev_rel hr hy hu) ?_
      simp [execOp, ho, hb, asBool]
    · obtain ⟨u, hu, h⟩ := evK_elim h
      refine fin_val hn h hr (ev_rel hr hz hu) ?_
      simp [execOp, ho, hb, asBool]
  · exact h.elim

theorem ofZero_spec {t : TypeId} {z : List T} (h : ofZero P t = some z) : ∃ i v, P.info? t = some i ∧ i.zero = some v ∧ v.cells.size = z.length ∧
    ∀ (S : Cells) (w : World) (i : Nat) (c : T) (u : Value), z[i]? = some c → v.cells[i]? = some u → RelT S w c u := by
  unfold ofZero at h
  split at h
  · rename_i i hi
    split at h
    · rename_i v hv
      refine ⟨i, v, hi, hv, ?_, fun S w => ?_⟩
      · have := ((ofC_rel (fun _ _ => False) (default : World) 400).2 _ _ h).1
        simpa using this
      · have := ((ofC_rel S w 400).2 _ _ h).2
        simpa using this
    · cases h
  · cases h

theorem op_alloc (hn : ∀ st' a' w', K st' → Good Γ B st' a' w' → next a' w') (hr : Rel Γ B S ρ ⟨tm, own⟩ a w) {t : TypeId} {z : List T} {k : Nat} (hz : ofZero P t = some z)
    (ho : o.op = .alloc t) (h : stepK Γ o.dst ⟨tm, own⟩ (.alloc k z) K) : o.wp P a w next Q := by
  obtain ⟨hf, h⟩ := freshK_elim h
  replace h := tagK_elim h
  obtain ⟨i, v, hi, hv, hs, hrel⟩ := ofZero_spec hz
  obtain ⟨ρ', hk, hr'⟩ := hr.alloc (k := k) (blk := .cells (z.map .t)) (arr := v.cells) (e := t) (rv := .nilFunc) hf rfl (fun ρ' e1 e2 => by
    refine ⟨v.cells, t, by rw [e1]; simp, by simpa using hs, fun j c u hc hu => ?_⟩
    simp only [List.getElem?_map, Option.map_eq_some_iff] at hc
    obtain ⟨x, hx, rfl⟩ := hc
    exact hrel S _ j x u hx hu)
  refine fin_val hn h hr' (u := .pointer (some ⟨w.heap.size, 0, none⟩)) ⟨.cells (z.map .t), _, by simp [look], rfl, fun _ => by rw [hk]⟩ ?_
  simp [execOp, ho, Instr.alloc, zeroValue, typeInfo, hi, hv, newVar, newRow]

theorem op_alloca (hn : ∀ st' a' w', K st' → Good Γ B st' a' w' → next a' w') (hr : Rel Γ B S ρ ⟨tm, own⟩ a w) {t : TypeId} {z : List T} {k : Nat} (hz : ofZero P t = some z) (h1 : onesB z = true)
    (ho : o.op = .alloc t) (h : stepK Γ o.dst ⟨tm, own⟩ (.alloca k z) K) : o.wp P a w next Q := by
  obtain ⟨hf, h⟩ := freshK_elim h
  obtain ⟨i, v, hi, hv, hs, hrel⟩ := ofZero_spec hz
  have one : ∀ x ∈ z, x.cells = [x] := fun x hx => by
    have := List.all_eq_true.1 h1 x hx
    cases x <;> first | rfl | (simp [T.one] at this)
  obtain ⟨ρ', hk, hr'⟩ := hr.alloc (k := k) (blk := .lst 1 z true) (arr := v.cells) (e := t) (rv := .slice (some ⟨w.heap.size, 0, none⟩) z.length z.length) hf rfl (fun ρ' e1 e2 => by
    refine ⟨v.cells, t, z.length, by rw [e1]; simp, by rw [e1], Nat.le_refl _, by omega, fun x hx => by simp [one x hx], fun i x j c hx hc => ?_⟩
    rw [one x (List.mem_of_getElem? hx)] at hc
    cases j with
    | succ j => simp at hc
    | zero =>
      simp at hc; subst hc
      have hlt : i < v.cells.size := by
        rw [hs]
        rcases Nat.lt_or_ge i z.length with h | h
        · exact h
        · rw [List.getElem?_eq_none h] at hx; cases hx
      have e : v.cells[i]? = some v.cells[i] := by simp [hlt]
      exact ⟨_, by simp [hlt], hrel _ _ i x _ hx e⟩)
  refine fin_val hn h hr' (u := .pointer (some ⟨w.heap.size, 0, none⟩)) ⟨.lst 1 z true, _, by simp [look], rfl, fun _ => by rw [hk]⟩ ?_
  simp [execOp, ho, Instr.alloc, zeroValue, typeInfo, hi, hv, newVar, newRow]
end
end Go.Mx
