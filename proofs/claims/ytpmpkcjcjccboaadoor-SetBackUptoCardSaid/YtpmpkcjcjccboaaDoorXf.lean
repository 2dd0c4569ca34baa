/-
  EACH STEP OF THE MACHINE IS A STEP OF THE PROGRAM: what is made, read, written.
-/
import Derived.Test.YtpmpkcjcjccboaaDoorXe
set_option linter.unusedVariables false
set_option linter.unusedSimpArgs false
namespace Go.Nx
open Go.RowKit

theorem ofC_rel (S : Cells) (w : World) : ∀ n, (∀ v x, ofC n v = some x → RelT S w x v) ∧
    (∀ l xs, ofCs n l = some xs → l.length = xs.length ∧ ∀ (i : Nat) (c : T) (u : Value), xs[i]? = some c → l[i]? = some u → RelT S w c u) := by
  intro n
  induction n with
  | zero => exact ⟨fun v x h => by simp [ofC] at h, fun l xs h => by simp [ofCs] at h⟩
  | succ n ih =>
    refine ⟨fun v x h => ?_, fun l xs h => ?_⟩
    · unfold ofC at h
      split at h <;> try (cases h <;> first | exact .bool _ | exact .int _ _ | exact .str _ | exact .nils | exact .nilfn | exact .nilif | exact .nilptr | exact .nilmap)
      · rename_i cs
        cases e : ofCs n cs.toList with
        | none => simp [e] at h
        | some xs =>
          simp [e] at h; subst h
          obtain ⟨h1, h2⟩ := ih.2 _ _ e
          refine .agg xs cs (by simpa using h1) fun i c u hc hu => h2 i c u hc (by simpa using hu)
    · unfold ofCs at h
      split at h
      · cases h; exact ⟨rfl, fun i c u hc => by simp at hc⟩
      · rename_i v r
        split at h
        · rename_i x ys e1 e2
          cases h
          obtain ⟨h1, h2⟩ := ih.2 _ _ e2
          refine ⟨by simp [h1], fun i c u hc hu => ?_⟩
          cases i with
          | zero => simp at hc hu; subst hc; subst hu; exact ih.1 _ _ e1
          | succ i => exact h2 i c u (by simpa using hc) (by simpa using hu)
        · cases h

theorem RelV.of_ts {S : Cells} {w : World} {ρ : Infos} {own : Own} {ts : List T} {arr : Array Value} (h : ∀ (i : Nat) (c : T) (v : Value), ts[i]? = some c → arr[i]? = some v → RelT S w c v)
    (i : Nat) (c : V) (v : Value) (hc : (ts.map V.t)[i]? = some c) (hv : arr[i]? = some v) : RelV S w ρ own c v := by
  simp only [List.getElem?_map, Option.map_eq_some_iff] at hc
  obtain ⟨x, hx, rfl⟩ := hc
  exact .t _ _ (h i x v hx hv)
theorem rel_aggV {S : Cells} {w : World} {ρ : Infos} {own : Own} {cs : List V} {arr : Array Value} (hn : arr.size = cs.length) (h : ∀ (i : Nat) (c : V) (v : Value), cs[i]? = some c → arr[i]? = some v → RelV S w ρ own c v) :
    RelV S w ρ own (aggV cs) (.agg arr) := by
  unfold aggV
  split
  · rename_i ts e
    have e2 := unT_some e
    subst e2
    exact .t _ _ (.agg ts arr (by simpa using hn) fun i c v hc hv => (h i (.t c) v (by simp [hc]) hv).t_of)
  · exact .agg cs arr hn h
theorem rel_tupV {S : Cells} {w : World} {ρ : Infos} {own : Own} {cs : List V} {arr : Array Value} (hn : arr.size = cs.length) (h : ∀ (i : Nat) (c : V) (v : Value), cs[i]? = some c → arr[i]? = some v → RelV S w ρ own c v) :
    RelV S w ρ own (tupV cs) (.tuple arr) := by
  unfold tupV
  split
  · rename_i ts e
    have e2 := unT_some e
    subst e2
    exact .t _ _ (.tup ts arr (by simpa using hn) fun i c v hc hv => (h i (.t c) v (by simp [hc]) hv).t_of)
  · exact .tup cs arr hn h

def Enter (P : Program) (f : FuncId) : Prop := ∃ fn, P.funcs[f]? = some fn ∧ fn.body.isSome = true ∧ fn.name ≠ "runtime.NumGoroutine"
def fresh (S : Cells) (w w' : World) : Cells := fun b o => S b o ∨ (w.heap.size ≤ b ∧ b < w'.heap.size)
def Good (Γ : Env) (B : Base) (st : St) (a : Act) (w : World) : Prop := ∃ S ρ, Rel Γ B S ρ st a w

/-- WHAT A STEP HAS DONE. -/
def Did (P : Program) (Γ : Env) (B : Base) (o : Oper) (a : Act) (w : World) (tm : List V) (K : V → Own → Log → Prop) : Prop :=
  ∃ v own' log S' ρ' w' u, K v own' log ∧ Rel Γ B S' ρ' ⟨tm, own'⟩ a w' ∧ RelV S' w' ρ' own' v u ∧
    ((execOp a.eval o).run P w = .ok (.value u) w' ∨ (execOp a.eval o).run P w = .ok .skip w' ∧ u = undef)

section
variable {P : Program} {Γ : Env} {B : Base} {S : Cells} {ρ : Infos} {tm : List V} {own : Own} {a : Act} {w : World}
variable {o : Oper} {K : V → Own → Log → Prop} {log : Log} {dr : Bool}

theorem did_val {v : V} {u : Value} (h : K v own log) (hr : Rel Γ B S ρ ⟨tm, own⟩ a w) (hv : RelV S w ρ own v u) (hrun : (execOp a.eval o).run P w = .ok (.value u) w) : Did P Γ B o a w tm K :=
  ⟨v, own, log, S, ρ, w, u, h, hr, hv, .inl hrun⟩
theorem rel_undef {S : Cells} {w : World} {ρ : Infos} {own : Own} : RelV S w ρ own (.t .undef) undef := .t _ _ (.tup [] #[] rfl fun i c u h => by simp at h)

theorem ev_rel (hr : Rel Γ B S ρ ⟨tm, own⟩ a w) {x : Operand} {x' : Opd} {v : V} (hx : lowX x = some x') (hv : evF Γ tm x' = some v) : RelV S w ρ own v (a.eval x) := by
  cases x with
  | tmp t => simp [lowX] at hx; subst hx; exact hr.ev hv
  | const c =>
    simp only [lowX] at hx
    cases e : ofC 400 c with
    | none => simp [e] at hx
    | some y =>
      simp [e] at hx; subst hx
      simp [evF] at hv; subst hv
      exact .t _ _ ((ofC_rel S w 400).1 _ _ e)
  | global g =>
    simp [lowX] at hx; subst hx
    simp only [evF] at hv
    cases e : Γ.gl g with
    | none => simp [e] at hv
    | some cs =>
      simp [e] at hv; subst hv
      have h := hr.mem.gl g cs e
      refine .t _ _ (.ref cs g 0 (fun i => (w.cell? ⟨g, i, none⟩).getD undef) (fun i hi => ?_) fun i c hc => ?_)
      · obtain ⟨h1, u, h2, h3⟩ := h i cs[i] (by simp [hi])
        rw [Nat.zero_add]
        exact ⟨h1, by rw [h2]; rfl⟩
      · obtain ⟨h1, u, h2, h3⟩ := h i c hc
        rw [h2]; exact h3
  | func f =>
    simp [lowX] at hx; subst hx
    simp [evF] at hv; subst hv
    exact .t _ _ (.fn _ [] [] #[] #[] rfl rfl (fun i c u h => by simp at h) (fun i c u h => by simp at h))

/-! ### what is made -/
theorem push_get (heap : Array Obj) (o : Obj) : (heap.push o)[heap.size]? = some o := by simp
theorem ofZero_spec {t : TypeId} {z : List T} (h : ofZero P t = some z) : ∃ i v, P.info? t = some i ∧ i.zero = some v ∧ v.cells.size = z.length ∧
    ∀ (S : Cells) (w : World) (i : Nat) (c : T) (u : Value), z[i]? = some c → v.cells[i]? = some u → RelT S w c u := by
  unfold ofZero at h
  split at h
  · rename_i i hi
    split at h
    · rename_i v hv
      refine ⟨i, v, hi, hv, ?_, fun S w => ?_⟩
      · have := ((ofC_rel (fun _ _ => False) (default : World) 400).2 _ _ h).1
        simpa using this
      · have := ((ofC_rel S w 400).2 _ _ h).2
        simpa using this
    · cases h
  · cases h

theorem cell_eq_of {x : T} (h : x.one = true) : x.cells = [x] := by cases x <;> first | rfl | (simp [T.one] at h)

theorem flat_one {x : T} (h : x.one = true) : Flat 1 x := by
  refine ⟨by rw [cell_eq_of h]; rfl, fun c hc => ?_⟩
  rw [cell_eq_of h] at hc
  simp at hc; subst hc; exact h
/-- a new block of cells -/
theorem new_cells (hr : Rel Γ B S ρ ⟨tm, own⟩ a w) {k : Nat} {cs : List V} {arr : Array Value} {e : TypeId} (hf : look k own = none) (hn : arr.size = cs.length)
    (h : ∀ (i : Nat) (c : V) (v : Value), cs[i]? = some c → arr[i]? = some v → RelV S w ρ own c v) :
    ∃ ρ' : Infos, Rel Γ B S ρ' ⟨tm, (k, .cells cs) :: own⟩ a { w with heap := w.heap.push (.cells arr e) } ∧ RelV S { w with heap := w.heap.push (.cells arr e) } ρ' ((k, .cells cs) :: own) (.ptr k 0) (.pointer (some ⟨w.heap.size, 0, none⟩)) := by
  have hk := Keep.alloc (fun _ _ => False) w (.cells arr e)
  obtain ⟨ρ', h1, h2⟩ := hr.grow (k := k) (blk := .cells cs) (w' := { w with heap := w.heap.push (.cells arr e) }) (S' := S) ⟨w.heap.size, .nilFunc⟩ hf hk (fun _ _ h => h) (fun _ _ h => .inl h)
    (fun b o hc => by
      have hc' : b = w.heap.size := hc
      subst hc'
      exact ⟨Nat.le_refl _, by simp, fun hs => by have := hr.mem.lt _ _ hs; omega⟩)
    (fun ρ' e1 e2 => by
      refine ⟨arr, e, by rw [e1]; simp, hn, fun i c v hc hv => ?_⟩
      exact RelV.mono (fun _ _ h => h) hk (fun _ _ h => h.elim) hr.mem.lt (OwnLe.cons _ hf) e2 (h i c v hc hv))
  refine ⟨ρ', h2, ?_⟩
  have := RelV.ptr (S := S) (w := { w with heap := w.heap.push (.cells arr e) }) (ρ := ρ') (own := (k, Blk.cells cs) :: own) k 0 (.cells cs) (by simp [look])
  rw [h1] at this; exact this
/-- a new list that may be written -/
theorem new_lst (hr : Rel Γ B S ρ ⟨tm, own⟩ a w) {k sz C : Nat} {ts : List T} {arr : Array Value} {e : TypeId} (hf : look k own = none) (hsz : ∀ x ∈ ts, Flat sz x) (hC : ts.length ≤ C) (hC0 : C * sz ≤ arr.size)
    (h : ∀ (i : Nat) (x : T) (j : Nat) (c : T), ts[i]? = some x → x.cells[j]? = some c → ∃ v, arr[i * sz + j]? = some v ∧ RelT S w c v) :
    ∃ ρ' : Infos, ρ' k = ⟨w.heap.size, .slice (some ⟨w.heap.size, 0, none⟩) ts.length C⟩ ∧ Rel Γ B S ρ' ⟨tm, (k, .lst sz ts 0) :: own⟩ a { w with heap := w.heap.push (.cells arr e) } := by
  have hk := Keep.alloc (fun _ _ => False) w (.cells arr e)
  exact hr.grow (k := k) (blk := .lst sz ts 0) (w' := { w with heap := w.heap.push (.cells arr e) }) (S' := S) ⟨w.heap.size, .slice (some ⟨w.heap.size, 0, none⟩) ts.length C⟩ hf hk (fun _ _ h => h) (fun _ _ h => .inl h)
    (fun b o hc => by
      have hc' : b = w.heap.size := hc.1
      subst hc'
      exact ⟨Nat.le_refl _, by simp, fun hs => by have := hr.mem.lt _ _ hs; omega⟩)
    (fun ρ' e1 e2 => by
      refine ⟨hsz, some ⟨w.heap.size, 0, none⟩, C, by rw [e1], hC, .inr ⟨by rw [e1], arr, e, by rw [e1]; simp, hC0, fun i x j c hx hc => ?_⟩⟩
      obtain ⟨v, h1, h2⟩ := h i x j c hx hc
      exact ⟨v, h1, h2.keep (fun _ _ h => h) hk (fun _ _ h => h.elim) hr.mem.lt⟩)
theorem sl_whole {ρ' : Infos} {k sz C m : Nat} {ts : List T} {w' : World} {A : Option Addr} {own' : Own} (hl : look k own' = some (.lst sz ts m)) (hρ : (ρ' k).rv = .slice A ts.length C) (hC : ts.length ≤ C) (hA : 0 < C → ∃ b o, A = some ⟨b, o, none⟩) :
    RelV S w' ρ' own' (.sl k 0 none) (.slice A ts.length C) := by
  refine .sl k 0 none _ hl _ ⟨A, ts.length, C, rfl, hC, Nat.zero_le _, (fun _ => by simp), (fun l hl => by cases hl), A, C, hρ, fun _ => rfl, Nat.le_refl _, fun hc => ?_⟩
  obtain ⟨b, o, e⟩ := hA hc
  exact ⟨b, o, e, by simpa using e⟩

theorem op_alloc (hr : Rel Γ B S ρ ⟨tm, own⟩ a w) {t : TypeId} {z : List T} {k : Nat} (hz : ofZero P t = some z) (ho : o.op = .alloc t)
    (h : run dr (tagP z fun cs => .new k (.cells cs) (.ret (.ptr k 0))) own log K) : Did P Γ B o a w tm K := by
  obtain ⟨hf, h⟩ := new_elim (tagP_elim h)
  obtain ⟨i, v, hi, hv, hs, hrel⟩ := ofZero_spec hz
  obtain ⟨ρ', h1, h2⟩ := new_cells hr (k := k) (cs := z.map .t) (arr := v.cells) (e := t) hf (by simpa using hs) (RelV.of_ts (hrel S w))
  refine ⟨_, _, _, S, ρ', _, _, h, h1, h2, .inl ?_⟩
  simp [execOp, ho, Instr.alloc, zeroValue, typeInfo, hi, hv, newVar, newRow]
theorem ones_cells {ts : List T} (h1 : ∀ x ∈ ts, x.one = true) {arr : Array Value} (hs : arr.size = ts.length) (hrel : ∀ (i : Nat) (c : T) (u : Value), ts[i]? = some c → arr[i]? = some u → RelT S w c u) :
    ∀ (i : Nat) (x : T) (j : Nat) (c : T), ts[i]? = some x → x.cells[j]? = some c → ∃ v, arr[i * 1 + j]? = some v ∧ RelT S w c v := by
  intro i x j c hx hc
  rw [cell_eq_of (h1 x (List.mem_of_getElem? hx))] at hc
  cases j with
  | succ j => simp at hc
  | zero =>
    simp at hc; subst hc
    have hlt : i < arr.size := by
      rw [hs]
      rcases Nat.lt_or_ge i ts.length with h | h
      · exact h
      · rw [List.getElem?_eq_none h] at hx; cases hx
    have e : arr[i]? = some arr[i] := by simp [hlt]
    exact ⟨_, by simp, hrel i x _ hx e⟩
theorem op_alloca (hr : Rel Γ B S ρ ⟨tm, own⟩ a w) {t : TypeId} {z : List T} {k : Nat} (hz : ofZero P t = some z) (h1 : onesB z = true) (ho : o.op = .alloc t)
    (h : run dr (.new k (.lst 1 z 0) (.ret (.ptr k 0))) own log K) : Did P Γ B o a w tm K := by
  obtain ⟨hf, h⟩ := new_elim h
  obtain ⟨i, v, hi, hv, hs, hrel⟩ := ofZero_spec hz
  have one : ∀ x ∈ z, x.one = true := fun x hx => List.all_eq_true.1 h1 x hx
  obtain ⟨ρ', e1, hr'⟩ := new_lst hr (k := k) (sz := 1) (C := z.length) (ts := z) (arr := v.cells) (e := t) hf (fun x hx => flat_one (one x hx)) (Nat.le_refl _) (by omega) (ones_cells one hs (hrel S w))
  refine ⟨_, _, _, S, ρ', _, .pointer (some ⟨w.heap.size, 0, none⟩), h, hr', ?_, .inl ?_⟩
  · have := RelV.ptr (S := S) (w := { w with heap := w.heap.push (.cells v.cells t) }) (ρ := ρ') (own := (k, Blk.lst 1 z 0) :: own) k 0 (.lst 1 z 0) (by simp [look])
    rw [e1] at this; exact this
  · simp [execOp, ho, Instr.alloc, zeroValue, typeInfo, hi, hv, newVar, newRow]

theorem vone_cells {v : Value} (h : vone v = true) : v.cells = #[v] := by cases v <;> first | rfl | (simp [vone] at h)
theorem vone_one {v : Value} (h : vone v = true) : v.oneCell' = true := by cases v <;> first | rfl | (simp [vone] at h)
theorem RelV.vone {v : V} {u : Value} (h : RelV S w ρ own v u) (hv : v.one = true) : Nx.vone u = true := by
  cases h with
  | t x v h => exact (h.one hv).1
  | dead v => simp [V.one] at hv
  | agg => simp [V.one] at hv
  | tup => simp [V.one] at hv
  | sl k off len b h v hv' => obtain ⟨a, n, c, rfl, _⟩ := hv'; rfl
  | ptr | eptr | cl | ce | mp | fn => rfl
/-- the cells of a value that is stored -/
theorem RelV.cells {v : V} {u : Value} (h : RelV S w ρ own v u) (hf : v.flat) :
    u.cells.size = v.cells.length ∧ ∀ (i : Nat) (c : V) (z : Value), v.cells[i]? = some c → u.cells[i]? = some z → RelV S w ρ own c z := by
  cases h with
  | t x v h =>
    obtain ⟨h1, h2⟩ := RelT.cells h hf
    exact ⟨by simpa [V.cells] using h1, RelV.of_ts h2⟩
  | dead v => exact hf.elim
  | tup cs arr hn h => exact hf.elim
  | agg cs arr hn h => exact ⟨hn, h⟩
  | ptr k off b h =>
    refine ⟨rfl, fun i c z hc hz => ?_⟩
    cases i with
    | zero => simp [V.cells, Value.cells] at hc hz; subst hc; subst hz; exact .ptr k off b h
    | succ i => simp [V.cells] at hc
  | eptr k i j b h ad ha =>
    refine ⟨rfl, fun i' c z hc hz => ?_⟩
    cases i' with
    | zero => simp [V.cells, Value.cells] at hc hz; subst hc; subst hz; exact .eptr k i j b h ad ha
    | succ i => simp [V.cells] at hc
  | sl k off len b h v hv =>
    have hv' := hv
    obtain ⟨a', n, c, rfl, _⟩ := hv'
    refine ⟨rfl, fun i' c z hc hz => ?_⟩
    cases i' with
    | zero => simp [V.cells, Value.cells] at hc hz; subst hc; subst hz; exact .sl k off len b h _ hv
    | succ i => simp [V.cells] at hc
  | cl sz xs a h =>
    refine ⟨rfl, fun i' c z hc hz => ?_⟩
    cases i' with
    | zero => simp [V.cells, Value.cells] at hc hz; subst hc; subst hz; exact .cl sz xs a h
    | succ i => simp [V.cells] at hc
  | ce a =>
    refine ⟨rfl, fun i' c z hc hz => ?_⟩
    cases i' with
    | zero => simp [V.cells, Value.cells] at hc hz; subst hc; subst hz; exact .ce a
    | succ i => simp [V.cells] at hc
  | mp k b h =>
    refine ⟨rfl, fun i' c z hc hz => ?_⟩
    cases i' with
    | zero => simp [V.cells, Value.cells] at hc hz; subst hc; subst hz; exact .mp k b h
    | succ i => simp [V.cells] at hc
  | fn f xs ys a b hn hm h h' =>
    refine ⟨rfl, fun i' c z hc hz => ?_⟩
    cases i' with
    | zero => simp [V.cells, Value.cells] at hc hz; subst hc; subst hz; exact .fn f xs ys a b hn hm h h'
    | succ i => simp [V.cells] at hc
theorem RelV.cells_one {v : V} {u : Value} (h : RelV S w ρ own v u) (hf : v.flat) (h1 : ∀ c ∈ v.cells, c.one = true) : ∀ z ∈ u.cells.toList, Nx.vone z = true := by
  intro z hz
  obtain ⟨h3, h4⟩ := h.cells hf
  obtain ⟨i, hi⟩ := List.mem_iff_getElem?.1 hz
  have hlt : i < v.cells.length := by
    rw [← h3]
    rcases Nat.lt_or_ge i u.cells.size with h | h
    · exact h
    · rw [List.getElem?_eq_none (by simpa using h)] at hi; cases hi
  have e : v.cells[i]? = some v.cells[i] := by simp [hlt]
  exact (h4 i _ z e (by simpa using hi)).vone (h1 _ (List.mem_of_getElem? e))

theorem op_box (hr : Rel Γ B S ρ ⟨tm, own⟩ a w) {t : TypeId} {x : Operand} {k : Nat} {v : V} (hv : RelV S w ρ own v (a.eval x)) (ho : o.op = .box t x)
    (h : run dr (cellsP v fun cs => .new k (.cells cs) (.ret (.ptr k 0))) own log K) : Did P Γ B o a w tm K := by
  obtain ⟨h1, h2, h⟩ := cellsP_elim h
  obtain ⟨hf, h⟩ := new_elim h
  obtain ⟨g1, g2⟩ := hv.cells h1
  obtain ⟨ρ', h3, h4⟩ := new_cells hr (k := k) (cs := v.cells) (arr := (a.eval x).cells) (e := t) hf g1 g2
  refine ⟨_, _, _, S, ρ', _, _, h, h3, h4, .inl ?_⟩
  simp [execOp, ho, Instr.box, newVar, newRow]
theorem op_boxa (hr : Rel Γ B S ρ ⟨tm, own⟩ a w) {t : TypeId} {x : Operand} {k : Nat} {l : List T} (hv : RelT S w (.agg l) (a.eval x)) (ho : o.op = .box t x)
    (h : run dr (.req (∀ x ∈ l, x.one = true) (.new k (.lst 1 l 0) (.ret (.ptr k 0)))) own log K) : Did P Γ B o a w tm K := by
  obtain ⟨one, h⟩ := req_elim h
  obtain ⟨hf, h⟩ := new_elim h
  obtain ⟨arr, e1, c1, c2⟩ := hv.agg_of
  obtain ⟨ρ', e2, hr'⟩ := new_lst hr (k := k) (sz := 1) (C := l.length) (ts := l) (arr := arr) (e := t) hf (fun x hx => flat_one (one x hx)) (Nat.le_refl _) (by omega) (ones_cells one c1 c2)
  refine ⟨_, _, _, S, ρ', _, .pointer (some ⟨w.heap.size, 0, none⟩), h, hr', ?_, .inl ?_⟩
  · have := RelV.ptr (S := S) (w := { w with heap := w.heap.push (.cells arr t) }) (ρ := ρ') (own := (k, Blk.lst 1 l 0) :: own) k 0 (.lst 1 l 0) (by simp [look])
    rw [e2] at this; exact this
  · simp [execOp, ho, Instr.box, newVar, newRow, e1, Value.cells]

/-! ### what is read -/
theorem cellsN_spec {t : TypeId} {n : Option Nat} (h : cellsN P t = some n) : ∃ d i, P.underlying t = some d ∧ P.info? t = some i ∧ ((n = none ∧ aggD d = false) ∨ (n = some i.size ∧ aggD d = true)) := by
  unfold cellsN at h
  split at h
  · rename_i d i h1 h2
    refine ⟨d, i, h1, h2, ?_⟩
    cases e : aggD d <;> simp [e] at h <;> simp [← h]
  · cases h
theorem run_isAgg {t : TypeId} {d : TypeDesc} (h : P.underlying t = some d) : (isAgg t).run P w = .ok (aggD d) w := by
  cases d <;> simp [isAgg, underlying, h, aggD]
theorem run_sizeOf {t : TypeId} {i : TypeInfo} (h : P.info? t = some i) : (sizeOf t).run P w = .ok i.size w := by
  simp [sizeOf, typeInfo, h]
theorem run_ld {t : TypeId} {n : Option Nat} {b off : Nat} (h : cellsN P t = some n) :
    (n = none → ∀ u, w.cell? ⟨b, off, none⟩ = some u → (loadVar t ⟨b, off, none⟩).run P w = .ok u w) ∧
    (∀ m, n = some m → ∀ l : List Value, l.length = m → (∀ (j : Nat) (u : Value), l[j]? = some u → w.cell? ⟨b, off + j, none⟩ = some u) → (loadVar t ⟨b, off, none⟩).run P w = .ok (.agg l.toArray) w) := by
  obtain ⟨d, i, h1, h2, h3⟩ := cellsN_spec h
  refine ⟨fun e u hu => ?_, fun m e l hl hc => ?_⟩
  · rcases h3 with ⟨_, h3⟩ | ⟨h3, _⟩
    · simp [loadVar, run_isAgg h1, h3, hu]
    · rw [e] at h3; cases h3
  · rcases h3 with ⟨h3, _⟩ | ⟨h3, h4⟩
    · rw [e] at h3; cases h3
    · rw [e] at h3; cases h3
      have := run_loadCells_list (P := P) (w := w) ⟨b, off, none⟩ l (fun j v hv => by
        have := hc j v hv
        by_cases z : j = 0
        · subst z; simpa [Addr.add] using this
        · simpa [Addr.add, z] using this)
      simp [loadVar, run_isAgg h1, h4, run_sizeOf h2, ← hl, this]
theorem op_ld_val {t : TypeId} {x : Operand} {b off : Nat} (ho : o.op = .load t x) (hx : a.eval x = .pointer (some ⟨b, off, none⟩)) {u : Value} (h : (loadVar t ⟨b, off, none⟩).run P w = .ok u w) :
    (execOp a.eval o).run P w = .ok (.value u) w := by
  simp [execOp, ho, hx, Instr.loadAt, Instr.sureAddr, h]
theorem take_list {α : Type} {l : List α} {o m : Nat} (h : m = 0 ∨ o + m ≤ l.length) : ((l.drop o).take m).length = m := by
  simp; rcases h with h | h <;> omega
theorem take_get {α : Type} {l : List α} {o m j : Nat} {x : α} (h : ((l.drop o).take m)[j]? = some x) : l[o + j]? = some x ∧ j < m := by
  rw [List.getElem?_take] at h
  split at h
  · rename_i hj
    rw [List.getElem?_drop] at h
    exact ⟨h, hj⟩
  · cases h
/-- reading cells that are known, of any kind -/
theorem rd_cells {t : TypeId} {n : Option Nat} {b off : Nat} {arr : Nat → Value} {cs : List V} (hc : cellsN P t = some n)
    (hcell : ∀ (j : Nat) (c : V), cs[j]? = some c → w.cell? ⟨b, off + j, none⟩ = some (arr j) ∧ RelV S w ρ own c (arr j)) {i : Nat} (h : run dr (rdP cs i n .ret) own log K) :
    ∃ v u, K v own log ∧ RelV S w ρ own v u ∧ (loadVar t ⟨b, off + i, none⟩).run P w = .ok u w := by
  rcases rdP_elim h with ⟨e, x, hx, hK⟩ | ⟨m, e, hm, hK⟩
  · obtain ⟨h1, h2⟩ := hcell i x hx
    exact ⟨_, _, hK, h2, (run_ld hc).1 e _ h1⟩
  · have hl : ((List.range m).map fun j => arr (i + j)).length = m := by simp
    refine ⟨_, _, hK, ?_, (run_ld hc).2 m e ((List.range m).map fun j => arr (i + j)) hl fun j u hu => ?_⟩
    · refine rel_aggV (by simp; rcases hm with hm | hm <;> omega) fun j c u hc hu => ?_
      obtain ⟨h1, h2⟩ := take_get hc
      obtain ⟨h3, h4⟩ := hcell (i + j) c h1
      simp [h2] at hu; subst hu
      exact h4
    · have hj : j < m := by
        rcases Nat.lt_or_ge j m with h | h
        · exact h
        · simp [h] at hu
      simp [hj] at hu; subst hu
      have hlt : i + j < cs.length := by rcases hm with hm | hm <;> omega
      have := (hcell (i + j) cs[i + j] (by simp [hlt])).1
      rwa [Nat.add_assoc]
theorem rd_known {t : TypeId} {n : Option Nat} {b off : Nat} {arr : Nat → Value} {cs : List T} (hc : cellsN P t = some n)
    (hcell : ∀ (j : Nat) (c : T), cs[j]? = some c → w.cell? ⟨b, off + j, none⟩ = some (arr j) ∧ RelT S w c (arr j)) {i : Nat} (h : run dr (rdTP cs i n .ret) own log K) :
    ∃ v u, K v own log ∧ RelV S w ρ own v u ∧ (loadVar t ⟨b, off + i, none⟩).run P w = .ok u w := by
  rcases rdTP_elim h with ⟨e, x, hx, hK⟩ | ⟨m, e, hm, hK⟩
  · obtain ⟨h1, h2⟩ := hcell i x hx
    exact ⟨_, _, hK, .t _ _ h2, (run_ld hc).1 e _ h1⟩
  · have hl : ((List.range m).map fun j => arr (i + j)).length = m := by simp
    refine ⟨_, _, hK, ?_, (run_ld hc).2 m e ((List.range m).map fun j => arr (i + j)) hl fun j u hu => ?_⟩
    · refine .t _ _ (.agg _ _ (by simp; rcases hm with hm | hm <;> omega) fun j c u hc hu => ?_)
      obtain ⟨h1, h2⟩ := take_get hc
      obtain ⟨h3, h4⟩ := hcell (i + j) c h1
      simp [h2] at hu; subst hu
      exact h4
    · have hj : j < m := by
        rcases Nat.lt_or_ge j m with h | h
        · exact h
        · simp [h] at hu
      simp [hj] at hu; subst hu
      have hlt : i + j < cs.length := by rcases hm with hm | hm <;> omega
      have := (hcell (i + j) cs[i + j] (by simp [hlt])).1
      rwa [Nat.add_assoc]
/-- the cells of a row of one-cell elements -/
theorem lst_cells {ts : List T} {arr : Array Value} (h : ∀ x ∈ ts, x.one = true)
    (h6 : ∀ (i : Nat) (x : T) (j : Nat) (c : T), ts[i]? = some x → x.cells[j]? = some c → ∃ v, arr[i * 1 + j]? = some v ∧ RelT S w c v) (i : Nat) (x : T) (hi : ts[i]? = some x) : ∃ u, arr[i]? = some u ∧ RelT S w x u := by
  have h1 := h x (List.mem_of_getElem? hi)
  simpa using h6 i x 0 x hi (by simp [cell_eq_of h1])
theorem ptr_of {k off : Nat} {u : Value} (h : RelV S w ρ own (.ptr k off) u) : u = .pointer (some ⟨(ρ k).blk, off, none⟩) := by cases h; rfl
theorem eptr_of {k i j : Nat} {u : Value} {sz m : Nat} {ts : List T} (h : RelV S w ρ own (.eptr k i j) u) (hl : look k own = some (.lst sz ts m)) : u = .pointer (some ⟨(ρ k).blk, i * sz + j, none⟩) := by
  cases h with
  | eptr _ _ _ b h ad ha =>
    rw [hl] at h; cases h
    rw [ha _ _ _ rfl]
/-- an own list that may be written: where its elements lie -/
theorem lst0_cells (hr : Rel Γ B S ρ ⟨tm, own⟩ a w) {k sz : Nat} {ts : List T} (hl : look k own = some (.lst sz ts 0)) (hne : ts ≠ []) :
    ∃ C arr e, (ρ k).rv = .slice (some ⟨(ρ k).blk, 0, none⟩) ts.length C ∧ ts.length ≤ C ∧ w.heap[(ρ k).blk]? = some (.cells arr e (0, 0)) ∧ C * sz ≤ arr.size ∧
      (∀ x ∈ ts, Flat sz x) ∧ ∀ (i : Nat) (x : T) (j : Nat) (c : T), ts[i]? = some x → x.cells[j]? = some c → ∃ v, arr[i * sz + j]? = some v ∧ RelT S w c v := by
  obtain ⟨h0, A, C, h1, h2, h3⟩ := hr.mem.blk k _ hl
  rcases h3 with h3 | ⟨h3, arr, e, h4, h5, h6⟩
  · exact (hne (List.eq_nil_of_length_eq_zero (by omega))).elim
  · exact ⟨C, arr, e, by rw [h1, h3], h2, h4, h5, h0, h6⟩

theorem op_ld (hr : Rel Γ B S ρ ⟨tm, own⟩ a w) {t : TypeId} {x : Operand} {n : Option Nat} {v : V} (hv : RelV S w ρ own v (a.eval x)) (hc : cellsN P t = some n) (ho : o.op = .load t x) {base : Nat} {y : Opd}
    (h : run dr (prog base (.ld n y) [v]) own log K) : Did P Γ B o a w tm K := by
  simp only [prog] at h
  split at h
  · rename_i k off
    obtain ⟨b, hb, h⟩ := rd_elim h
    have e1 := ptr_of hv
    have hB := hr.mem.blk k b hb
    split at h
    · obtain ⟨arr, e, h1, h2, h3⟩ := hB
      rename_i cs
      obtain ⟨v, u, hK, hv', hrun⟩ := rd_cells (S := S) (ρ := ρ) (b := (ρ k).blk) (off := 0) (arr := fun j => (arr[j]?).getD undef) (cs := cs) (w := w) hc (fun j c hcj => by
        have hlt : j < arr.size := by
          rw [h2]
          rcases Nat.lt_or_ge j cs.length with h | h
          · exact h
          · rw [List.getElem?_eq_none h] at hcj; cases hcj
        have e6 : arr[j]? = some arr[j] := by simp [hlt]
        rw [cell_row h1, Nat.zero_add, e6]
        exact ⟨rfl, h3 j c _ hcj e6⟩) h
      rw [Nat.zero_add] at hrun
      exact did_val hK hr hv' (op_ld_val ho e1 hrun)
    · rename_i cs
      obtain ⟨v, u, hK, hv', hrun⟩ := rd_known (S := S) (ρ := ρ) (b := (ρ k).blk) (off := 0) (arr := fun j => (w.cell? ⟨(ρ k).blk, j, none⟩).getD undef) (cs := cs) (w := w) hc (fun j c hcj => by
        obtain ⟨_, u, hu, hr'⟩ := hB j c hcj
        rw [Nat.zero_add, hu]; exact ⟨rfl, hr'⟩) h
      rw [Nat.zero_add] at hrun
      exact did_val hK hr hv' (op_ld_val ho e1 hrun)
    · rename_i sz ts m
      split at h
      · rename_i nn hh
        clear hh
        replace h := req_elim h
        obtain ⟨⟨g1, g2⟩, h⟩ := h
        have key : ∃ arr : Nat → Value, ∀ (j : Nat) (c : T), ts[j]? = some c → w.cell? ⟨(ρ k).blk, 0 + j, none⟩ = some (arr j) ∧ RelT S w c (arr j) := by
          by_cases hne : ts = []
          · exact ⟨fun _ => undef, fun j c hcj => by subst hne; simp at hcj⟩
          · obtain ⟨C, arr, e, h1, h2, h3, h4, h5, h6⟩ := lst0_cells hr hb hne
            refine ⟨fun j => (arr[j]?).getD undef, fun j c hcj => ?_⟩
            obtain ⟨z, hz, hr'⟩ := lst_cells g2 h6 j c hcj
            rw [cell_row h3, Nat.zero_add]
            simp only [hz, Option.getD_some]
            exact ⟨trivial, hr'⟩
        obtain ⟨arr, harr⟩ := key
        have hl : ((List.range nn).map arr).length = nn := by simp
        refine did_val h hr (u := .agg ((List.range nn).map arr).toArray) (.t _ _ (.agg ts _ (by simp [g1]) fun j c u hcj hu => ?_)) (op_ld_val ho e1 ((run_ld hc).2 nn rfl _ hl fun j u hu => ?_))
        · obtain ⟨_, hr'⟩ := harr j c hcj
          have hj : j < nn := by
            rw [← g1]
            rcases Nat.lt_or_ge j ts.length with h | h
            · exact h
            · rw [List.getElem?_eq_none h] at hcj; cases hcj
          simp [hj] at hu; subst hu; exact hr'
        · have hj : j < nn := by
            rcases Nat.lt_or_ge j nn with h | h
            · exact h
            · simp [h] at hu
          have := (harr j ts[j] (by simp [g1, hj])).1
          simp [hj] at hu; subst hu
          exact this
      · exact h.elim
    · exact h.elim
  · rename_i k i j
    obtain ⟨b, hb, h⟩ := rd_elim h
    split at h
    · rename_i sz ts m
      split at h
      · obtain ⟨h0, y', hy, h⟩ := nth_elim h
        obtain ⟨_, _, h⟩ := cellsTP_elim h
        have e1 := eptr_of hv hb
        obtain ⟨C, arr, e, h1, h2, h3, h4, h5, h6⟩ := lst0_cells hr hb (fun hn => by subst hn; simp at hy)
        obtain ⟨v, u, hK, hv', hrun⟩ := rd_known (S := S) (ρ := ρ) (b := (ρ k).blk) (off := i * sz) (arr := fun j => (arr[i * sz + j]?).getD undef) (cs := y'.cells) (w := w) hc (fun j c hc => by
          obtain ⟨u, hu, hr'⟩ := h6 i y' j c (by simpa using hy) hc
          rw [cell_row h3, hu]
          exact ⟨rfl, hr'⟩) h
        exact did_val hK hr hv' (op_ld_val ho e1 hrun)
      · exact h.elim
    · exact h.elim
  · rename_i cs
    have hv' := hv.t_of
    generalize hx : a.eval x = u at hv'
    cases hv' with
    | ref _ b o' uu ha hh =>
      obtain ⟨v, u, hK, hv', hrun⟩ := rd_known (S := S) (ρ := ρ) (b := b) (off := o') (arr := uu) (cs := cs) (w := w) hc (fun j c hcj => by
        have hlt : j < cs.length := by
          rcases Nat.lt_or_ge j cs.length with h | h
          · exact h
          · rw [List.getElem?_eq_none h] at hcj; cases hcj
        exact ⟨(ha j hlt).2, hh j c hcj⟩) h
      exact did_val hK hr hv' (op_ld_val ho hx hrun)
  · exact h.elim
end
end Go.Nx
