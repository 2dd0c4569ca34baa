/-
  THE STEPS THAT TOUCH NO BLOCK, AND THE CALL.
-/
import Derived.Test.YtbcldnaoecnffaaDoorMi
set_option linter.unusedVariables false
namespace Go.Mx
open Go.RowKit

section
variable {P : Program} {Γ : Env} {B : Base} {S : Cells} {ρ : Nat → Info} {tm : List V} {own : List (Nat × Blk)} {a : Act} {w : World}
variable {o : Oper} {K : St → Prop} {next : Act → World → Prop} {Q : Exit → Act → World → Prop}

theorem op_nilc (hn : ∀ st' a' w', K st' → Good Γ B st' a' w' → next a' w') (hr : Rel Γ B S ρ ⟨tm, own⟩ a w) {x : Operand} {x' : Opd} (hx : lowX x = some x')
    (ho : o.op = .nilCheck x) (h : stepK Γ o.dst ⟨tm, own⟩ (.nilc x') K) : o.wp P a w next Q := by
  obtain ⟨v, hv, h⟩ := evK_elim h
  have hrel := ev_rel hr hx hv
  split at h
  · obtain ⟨b, ad, h1, h2, h3⟩ := hrel
    exact fin_val hn h hr ⟨b, ad, h1, rfl, h3⟩ (by simp [execOp, ho, h2])
  · obtain ⟨sz, ts, wr, ad, h1, h2, h3⟩ := hrel
    exact fin_val hn h hr ⟨sz, ts, wr, ad, h1, rfl, h3⟩ (by simp [execOp, ho, h2])
  · obtain ⟨b, o', h2, h3⟩ := hrel
    exact fin_val hn h hr ⟨b, o', rfl, h3⟩ (by simp [execOp, ho, h2])
  · rename_i f first caps
    have hrel' : RelT S w (.fn (.func f) first caps) (a.eval x) := hrel
    generalize hu : a.eval x = u at hrel'
    cases hrel' with
    | fn _ _ _ va vb h1 h2 h3 h4 => exact fin_val hn h hr (u := .func (.func f) va vb) (.fn _ _ _ va vb h1 h2 h3 h4) (by simp [execOp, ho, hu])
  · exact h.elim

theorem add_addr {b off f : Nat} : Addr.add ⟨b, off, none⟩ f = ⟨b, off + f, none⟩ := by
  by_cases z : f = 0
  · subst z; simp [Addr.add]
  · simp [Addr.add, z]
theorem op_fa (hn : ∀ st' a' w', K st' → Good Γ B st' a' w' → next a' w') (hr : Rel Γ B S ρ ⟨tm, own⟩ a w) {x : Operand} {x' : Opd} {s : TypeId} {f : Nat} {fs : Array Field} {fl : Field} {i : TypeInfo} (hx : lowX x = some x')
    (h1 : P.underlying s = some (.struct fs)) (h2 : fs[f]? = some fl) (h3 : P.info? fl.type = some i) (h4 : i.size ≠ 0)
    (ho : o.op = .fieldAddr s x f) (h : stepK Γ o.dst ⟨tm, own⟩ (.fa fl.offset x') K) : o.wp P a w next Q := by
  obtain ⟨v, hv, h⟩ := evK_elim h
  have hrel := ev_rel hr hx hv
  have run : ∀ ad : Addr, a.eval x = .pointer (some ad) → (execOp a.eval o).run P w = .ok (.value (.pointer (some (ad.add fl.offset)))) w := by
    intro ad e
    simp [execOp, ho, e, Instr.fieldAt, underlying, h1, h2, Instr.sureAddr, fieldPlace, run_sizeOf h3, h4]
  split at h
  · obtain ⟨b, ad, g1, g2, g3⟩ := hrel
    exact fin_val hn h hr ⟨b, _, g1, rfl, fun hw => by rw [g3 hw, add_addr]; rfl⟩ (run ad g2)
  · obtain ⟨sz, ts, wr, ad, g1, g2, g3⟩ := hrel
    exact fin_val hn h hr ⟨sz, ts, wr, _, g1, rfl, fun hw => by rw [g3 hw, add_addr, Nat.add_assoc]; rfl⟩ (run ad g2)
  · obtain ⟨b, o', g2, g3⟩ := hrel
    refine fin_val hn h hr ⟨b, o', ?_, g3⟩ (run _ g2)
    rw [add_addr, Nat.add_assoc]; rfl
  · exact h.elim

theorem op_fld (hn : ∀ st' a' w', K st' → Good Γ B st' a' w' → next a' w') (hr : Rel Γ B S ρ ⟨tm, own⟩ a w) {x : Operand} {x' : Opd} {s : TypeId} {f : Nat} {fs : Array Field} {fl : Field} {n : Option Nat} (hx : lowX x = some x')
    (h1 : P.underlying s = some (.struct fs)) (h2 : fs[f]? = some fl) (h3 : cellsN P fl.type = some n)
    (ho : o.op = .field s x f) (h : stepK Γ o.dst ⟨tm, own⟩ (.fld fl.offset n x') K) : o.wp P a w next Q := by
  obtain ⟨v, hv, h⟩ := evK_elim h
  have hrel := ev_rel hr hx hv
  split at h
  · rename_i cs
    obtain ⟨arr, e, c1, c2⟩ := RelT.agg_of hrel
    obtain ⟨d, i, g1, g2, g3⟩ := cellsN_spec h3
    rcases rdTK_elim h with ⟨e4, y, hy, hK⟩ | ⟨m, e4, hm, hK⟩
    · have hlt : fl.offset < arr.size := by
        rw [c1]
        rcases Nat.lt_or_ge fl.offset cs.length with h | h
        · exact h
        · rw [List.getElem?_eq_none h] at hy; cases hy
      have e6 : arr[fl.offset]? = some arr[fl.offset] := by simp [hlt]
      rcases g3 with ⟨_, g3⟩ | ⟨g3, _⟩
      · refine fin_val hn hK hr (c2 _ _ _ hy e6) ?_
        simp [execOp, ho, e, Instr.field, underlying, h1, h2, asAgg, part, run_isAgg g1, g3, e6]
      · rw [e4] at g3; cases g3
    · rcases g3 with ⟨g3, _⟩ | ⟨g3, g4⟩
      · rw [e4] at g3; cases g3
      · rw [e4] at g3; cases g3
        refine fin_val hn hK hr (u := .agg (arr.extract fl.offset (fl.offset + i.size))) (.agg _ _ (by simp [c1]; rcases hm with hm | hm <;> omega) fun j c u hc hu => ?_) ?_
        · obtain ⟨p1, p2⟩ := take_get hc
          refine c2 _ _ _ p1 ?_
          rw [Array.getElem?_extract] at hu
          split at hu
          · exact hu
          · cases hu
        · simp [execOp, ho, e, Instr.field, underlying, h1, h2, asAgg, part, run_isAgg g1, g4, run_sizeOf g2]
  · exact h.elim

theorem op_ixa (hn : ∀ st' a' w', K st' → Good Γ B st' a' w' → next a' w') (hr : Rel Γ B S ρ ⟨tm, own⟩ a w) {x y : Operand} {x' y' : Opd} {t e : TypeId} {len : Nat} {i : TypeInfo} (hx : lowX x = some x') (hy : lowX y = some y')
    (h1 : P.underlying t = some (.array len e)) (h2 : P.info? e = some i)
    (ho : o.op = .indexAddr t x y) (h : stepK Γ o.dst ⟨tm, own⟩ (.ixa len i.size x' y') K) : o.wp P a w next Q := by
  obtain ⟨v, hv, h⟩ := evK_elim h
  obtain ⟨u, hu, h⟩ := evK_elim h
  have hrel := ev_rel hr hx hv
  have hrel2 := ev_rel hr hy hu
  split at h
  · rename_i k z
    have e2 := RelT.int_of hrel2
    have run : ∀ ad : Addr, a.eval x = .pointer (some ad) → 0 ≤ z → z < len → (execOp a.eval o).run P w = .ok (.value (.pointer (some (ad.add (z.toNat * i.size))))) w := by
      intro ad e p1 p2
      simp [execOp, ho, e, e2, Instr.indexAt, asIntOf, underlying, h1, Instr.sureAddr, run_sizeOf h2, p1, p2]
    split at h
    · obtain ⟨b, hb, h'⟩ := lkupK_elim h
      obtain ⟨b', ad, g1, g2, g3⟩ := hrel
      try simp only at hb g1
      rw [hb] at g1; cases g1
      obtain ⟨q1, ⟨ts, wr, q2⟩, q3, q4, q5⟩ := ixaK_elim h'
      subst q1 q2
      refine fin_val hn q5 hr ⟨i.size, ts, wr, _, hb, rfl, fun hw => ?_⟩ (run ad g2 q3 q4)
      rw [g3 hw, add_addr]; simp
    · rename_i cs0 o0 _
      obtain ⟨b, o', g2, g3⟩ := hrel
      obtain ⟨q1, q2, q3, y, q4, q5⟩ := ixvK_elim h
      refine fin_val hn q5 hr (u := .pointer (some (Addr.add ⟨b, o' + o0, none⟩ (z.toNat * i.size)))) ⟨b, o' + (o0 + z.toNat), ?_, fun j c hc => ?_⟩ (run _ g2 q2 q3)
      · rw [add_addr, q1]; simp [Nat.add_assoc]
      · cases j with
        | succ j => simp at hc
        | zero => simp at hc; subst hc; exact g3 _ _ q4
    · exact h.elim
  · exact h.elim

theorem op_ixs (hn : ∀ st' a' w', K st' → Good Γ B st' a' w' → next a' w') (hr : Rel Γ B S ρ ⟨tm, own⟩ a w) {x y : Operand} {x' y' : Opd} {t e : TypeId} {i : TypeInfo} (hx : lowX x = some x') (hy : lowX y = some y')
    (h1 : P.underlying t = some (.slice e)) (h2 : P.info? e = some i)
    (ho : o.op = .indexAddr t x y) (h : stepK Γ o.dst ⟨tm, own⟩ (.ixs i.size x' y') K) : o.wp P a w next Q := by
  obtain ⟨v, hv, h⟩ := evK_elim h
  obtain ⟨u, hu, h⟩ := evK_elim h
  have hrel := ev_rel hr hx hv
  have hrel2 := ev_rel hr hy hu
  split at h
  · rename_i k z
    have e2 := RelT.int_of hrel2
    split at h
    · rename_i x0
      rcases listK_elim h with ⟨sz, xs, q1, q2⟩ | ⟨q1, q2⟩
      · subst q1
        obtain ⟨q3, y0, q4, q5⟩ := nthK_elim q2
        obtain ⟨q6, q7⟩ := natK_elim q5
        rw [Nat.beq_eq] at q6; subst q6
        obtain ⟨_, _, q8⟩ := cellsTK_elim q7
        have hrel' : RelT S w (.list i.size xs) (a.eval x) := hrel
        generalize hux : a.eval x = ux at hrel'
        cases hrel' with
        | list _ _ ad cap f hcap ha hsz hrr =>
          have hlt : z.toNat < xs.length := by
            rcases Nat.lt_or_ge z.toNat xs.length with h | h
            · exact h
            · rw [List.getElem?_eq_none h] at q4; cases q4
          obtain ⟨b, o', rfl, hcell⟩ := ha (by intro e; subst e; simp at hlt)
          have hlt2 : z < (xs.length : Int) := by omega
          refine fin_val hn q8 hr (u := .pointer (some (Addr.add ⟨b, o', none⟩ (z.toNat * i.size)))) ⟨b, o' + z.toNat * i.size, by rw [add_addr]; rfl, fun j c hc => ?_⟩ ?_
          · have hj : j < i.size := by
              rw [← hsz y0 (List.mem_of_getElem? q4)]
              rcases Nat.lt_or_ge j y0.cells.length with h | h
              · exact h
              · rw [List.getElem?_eq_none h] at hc; cases hc
            obtain ⟨p1, p2⟩ := hcell _ j hlt hj
            exact ⟨p1, _, p2, hrr _ _ q4 _ _ hc⟩
          · simp [execOp, ho, hux, e2, Instr.indexAt, asIntOf, underlying, h1, run_sizeOf h2, q3, hlt2]
      · obtain ⟨_, y0, q4, _⟩ := nthK_elim q2
        simp at q4
    · exact h.elim
  · exact h.elim

theorem op_ixstr (hn : ∀ st' a' w', K st' → Good Γ B st' a' w' → next a' w') (hr : Rel Γ B S ρ ⟨tm, own⟩ a w) {x y : Operand} {x' y' : Opd} {t : TypeId} (hx : lowX x = some x') (hy : lowX y = some y')
    (h1 : P.underlying t = some .string) (ho : o.op = .index t x y) (h : stepK Γ o.dst ⟨tm, own⟩ (.ixstr x' y') K) : o.wp P a w next Q := by
  obtain ⟨v, hv, h⟩ := evK_elim h
  obtain ⟨u, hu, h⟩ := evK_elim h
  have hrel := ev_rel hr hx hv
  have hrel2 := ev_rel hr hy hu
  split at h
  · rename_i k z
    have e2 := RelT.int_of hrel2
    split at h
    · rename_i s _
      have e1 := RelT.str_of hrel
      obtain ⟨q3, y0, q4, q5⟩ := nthK_elim h
      refine fin_val hn q5 hr (u := .int .u8 y0.toNat) (.int _ _) ?_
      have e3 : s[z.toNat]? = some y0 := by
        have : s.data[z.toNat]? = some y0 := by simpa using q4
        exact this
      simp [execOp, ho, e1, e2, Instr.index, asIntOf, underlying, h1, q3, e3]
    · exact h.elim
  · exact h.elim

theorem op_un (hn : ∀ st' a' w', K st' → Good Γ B st' a' w' → next a' w') (hr : Rel Γ B S ρ ⟨tm, own⟩ a w) {x : Operand} {x' : Opd} {op : UnOp} {t : TypeId} (hx : lowX x = some x')
    (ho : o.op = .unOp op t x) (h : stepK Γ o.dst ⟨tm, own⟩ (.un op x') K) : o.wp P a w next Q := by
  obtain ⟨v, hv, h⟩ := evK_elim h
  have hrel := ev_rel hr hx hv
  obtain ⟨y, rfl, h⟩ := toTK_elim h
  obtain ⟨r, h1, h2⟩ := ansK_elim h
  unfold unA at h1
  split at h1 <;> simp at h1
  · subst h1
    have e := RelT.bool_of hrel
    exact fin_val hn h2 hr (u := .bool (!_)) (.bool _) (by simp [execOp, ho, e, Op.unary])
  · subst h1
    have e := RelT.int_of hrel
    exact fin_val hn h2 hr (u := .int _ _) (.int _ _) (by simp [execOp, ho, e, Op.unary, Op.intArith])
  · subst h1
    have e := RelT.int_of hrel
    exact fin_val hn h2 hr (u := .int _ _) (.int _ _) (by simp [execOp, ho, e, Op.unary, Op.intBits, xorI])

theorem op_conv (hn : ∀ st' a' w', K st' → Good Γ B st' a' w' → next a' w') (hr : Rel Γ B S ρ ⟨tm, own⟩ a w) {x : Operand} {x' : Opd} {s d : TypeId} {k j : IntKind} (hx : lowX x = some x')
    (h1 : P.underlying s = some (.int j)) (h2 : P.underlying d = some (.int k)) (ho : o.op = .convert s d x) (h : stepK Γ o.dst ⟨tm, own⟩ (.conv k x') K) : o.wp P a w next Q := by
  obtain ⟨v, hv, h⟩ := evK_elim h
  have hrel := ev_rel hr hx hv
  split at h
  · have e := RelT.int_of hrel
    exact fin_val hn h hr (u := .int _ _) (.int _ _) (by simp [execOp, ho, e, convert, underlying, h1, h2, Conv.intToInt])
  · exact h.elim
theorem op_convs (hn : ∀ st' a' w', K st' → Good Γ B st' a' w' → next a' w') (hr : Rel Γ B S ρ ⟨tm, own⟩ a w) {x : Operand} {x' : Opd} {s d : TypeId} (hx : lowX x = some x')
    (h1 : P.underlying s = some .string) (h2 : P.underlying d = some .string) (ho : o.op = .convert s d x) (h : stepK Γ o.dst ⟨tm, own⟩ (.cvs x') K) : o.wp P a w next Q := by
  obtain ⟨v, hv, h⟩ := evK_elim h
  have hrel := ev_rel hr hx hv
  split at h
  · have e := RelT.str_of hrel
    exact fin_val hn h hr (u := .string _) (.str _) (by simp [execOp, ho, e, convert, underlying, h1, h2])
  · exact h.elim

theorem op_ext (hn : ∀ st' a' w', K st' → Good Γ B st' a' w' → next a' w') (hr : Rel Γ B S ρ ⟨tm, own⟩ a w) {x : Operand} {x' : Opd} {i : Nat} (hx : lowX x = some x')
    (ho : o.op = .extract x i) (h : stepK Γ o.dst ⟨tm, own⟩ (.ext x' i) K) : o.wp P a w next Q := by
  obtain ⟨v, hv, h⟩ := evK_elim h
  have hrel := ev_rel hr hx hv
  split at h
  · rename_i l
    obtain ⟨y, h1, h2⟩ := getK_elim h
    have hrel' : RelT S w (.tup l) (a.eval x) := hrel
    generalize hux : a.eval x = ux at hrel'
    cases hrel' with
    | tup _ arr hn' hh =>
      have hlt : i < arr.size := by
        rw [hn']
        rcases Nat.lt_or_ge i l.length with h | h
        · exact h
        · rw [List.getElem?_eq_none h] at h1; cases h1
      have e6 : arr[i]? = some arr[i] := by simp [hlt]
      exact fin_val hn h2 hr (hh _ _ _ h1 e6) (by simp [execOp, ho, hux, Instr.extract, e6])
  · exact h.elim

theorem len_of {x : T} {sz : Nat} {xs : List T} {v : Value} (hr : RelT S w x v) (h : x = .list sz xs ∨ (x = .nils ∧ xs = [])) : ∃ ad cap, v = .slice ad xs.length cap := by
  rcases h with rfl | ⟨rfl, rfl⟩ <;> cases hr
  · exact ⟨_, _, rfl⟩
  · exact ⟨_, _, rfl⟩
theorem op_len (hn : ∀ st' a' w', K st' → Good Γ B st' a' w' → next a' w') (hr : Rel Γ B S ρ ⟨tm, own⟩ a w) {x : Operand} {x' : Opd} {c : Call} {t e : TypeId} (hx : lowX x = some x') (hc : c.callee = .builtin .len) (ha : c.args = #[x]) (ht : c.argTypes = #[t])
    (hu : P.underlying t = some (.slice e)) (ho : o.op = .call c) (h : stepK Γ o.dst ⟨tm, own⟩ (.len x') K) : o.wp P a w next Q := by
  obtain ⟨v, hv, h⟩ := evK_elim h
  have hrel := ev_rel hr hx hv
  split at h
  · obtain ⟨xs, hx2, hK⟩ : ∃ xs : List T, (∃ ad cap, a.eval x = .slice ad xs.length cap) ∧ putK ⟨tm, own⟩ o.dst (.t (.int .i64 xs.length)) K := by
      rcases listK_elim h with ⟨sz, xs, q1, q2⟩ | ⟨q1, q2⟩
      · subst q1; exact ⟨xs, len_of hrel (.inl rfl), q2⟩
      · subst q1; exact ⟨[], len_of (sz := 0) hrel (.inr ⟨rfl, rfl⟩), q2⟩
    obtain ⟨ad, cap, e1⟩ := hx2
    exact fin_val hn hK hr (u := .int .i64 _) (.int _ _) (by simp [execOp, ho, resolve, hc, ha, ht, invoke, builtin, Builtin.len_, underlying, hu, e1, goInt])
  · exact h.elim
theorem op_lens (hn : ∀ st' a' w', K st' → Good Γ B st' a' w' → next a' w') (hr : Rel Γ B S ρ ⟨tm, own⟩ a w) {x : Operand} {x' : Opd} {c : Call} {t : TypeId} (hx : lowX x = some x') (hc : c.callee = .builtin .len) (ha : c.args = #[x]) (ht : c.argTypes = #[t])
    (hu : P.underlying t = some .string) (ho : o.op = .call c) (h : stepK Γ o.dst ⟨tm, own⟩ (.lens x') K) : o.wp P a w next Q := by
  obtain ⟨v, hv, h⟩ := evK_elim h
  have hrel := ev_rel hr hx hv
  split at h
  · have e1 := RelT.str_of hrel
    exact fin_val hn h hr (u := .int .i64 _) (.int _ _) (by simp [execOp, ho, resolve, hc, ha, ht, invoke, builtin, Builtin.len_, underlying, hu, e1, goInt])
  · exact h.elim
theorem op_mx (hn : ∀ st' a' w', K st' → Good Γ B st' a' w' → next a' w') (hr : Rel Γ B S ρ ⟨tm, own⟩ a w) {x y : Operand} {x' y' : Opd} {c : Call} (hx : lowX x = some x') (hy : lowX y = some y') (hc : c.callee = .builtin .max) (ha : c.args = #[x, y])
    (ho : o.op = .call c) (h : stepK Γ o.dst ⟨tm, own⟩ (.mx x' y') K) : o.wp P a w next Q := by
  obtain ⟨v, hv, h⟩ := evK_elim h
  obtain ⟨u, hu, h⟩ := evK_elim h
  have hrel := ev_rel hr hx hv
  have hrel2 := ev_rel hr hy hu
  split at h
  · have e1 := RelT.int_of hrel
    have e2 := RelT.int_of hrel2
    exact fin_val hn h hr (u := .int _ _) (.int _ _) (by simp [execOp, ho, resolve, hc, ha, invoke, builtin, run_max_int2, e1, e2, maxI_def])
  · exact h.elim
theorem op_mn (hn : ∀ st' a' w', K st' → Good Γ B st' a' w' → next a' w') (hr : Rel Γ B S ρ ⟨tm, own⟩ a w) {x y : Operand} {x' y' : Opd} {c : Call} (hx : lowX x = some x') (hy : lowX y = some y') (hc : c.callee = .builtin .min) (ha : c.args = #[x, y])
    (ho : o.op = .call c) (h : stepK Γ o.dst ⟨tm, own⟩ (.mn x' y') K) : o.wp P a w next Q := by
  obtain ⟨v, hv, h⟩ := evK_elim h
  obtain ⟨u, hu, h⟩ := evK_elim h
  have hrel := ev_rel hr hx hv
  have hrel2 := ev_rel hr hy hu
  split at h
  · have e1 := RelT.int_of hrel
    have e2 := RelT.int_of hrel2
    exact fin_val hn h hr (u := .int _ _) (.int _ _) (by simp [execOp, ho, resolve, hc, ha, invoke, builtin, run_min_int2, e1, e2, minI_def])
  · exact h.elim
end
end Go.Mx
