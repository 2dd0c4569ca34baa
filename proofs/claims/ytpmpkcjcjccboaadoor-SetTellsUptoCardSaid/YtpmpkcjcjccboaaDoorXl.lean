/-
  ELEMENTS, ARRAYS' SLICES, CLOSURES, MAPS.
-/
import Derived.Test.YtpmpkcjcjccboaaDoorXk
set_option linter.unusedVariables false
set_option linter.unusedSimpArgs false
namespace Go.Nx
open Go.RowKit

section
variable {P : Program} {Γ : Env} {B : Base} {S : Cells} {ρ : Infos} {tm : List V} {own : Own} {a : Act} {w : World}
variable {o : Oper} {K : V → Own → Log → Prop} {log : Log} {dr : Bool}

theorem op_slp (hr : Rel Γ B S ρ ⟨tm, own⟩ a w) {t e : TypeId} {n : Nat} {ti : TypeInfo} {x : Operand} {lo hi : Option Operand} {lo' hi' : Option Opd} {v : V} {vs : List V} (hx : RelV S w ρ own v (a.eval x)) (hb : Bnds S w ρ own a lo hi lo' hi' vs)
    (h1 : P.underlying t = some (.array n e)) (h2 : P.info? e = some ti) (ho : o.op = .slice t x lo hi none) {base : Nat} {x' : Opd} (h : run dr (prog base (.slp ti.size n x' lo' hi') (v :: vs)) own log K) : Did P Γ B o a w tm K := by
  simp only [prog] at h
  replace h := bnds_elim hb h
  obtain ⟨l, m, h, hl, hm⟩ := h
  split at h
  · rename_i k
    have e1 := ptr_of hx
    replace h := rd_elim h
    obtain ⟨b, hbk, h⟩ := h
    split at h
    · rename_i sz' ts
      replace h := natP_elim h
      obtain ⟨hz, h⟩ := h
      rw [Nat.beq_eq] at hz; subst hz
      replace h := req_elim h
      obtain ⟨hn, h⟩ := h
      have run : 0 ≤ l.getD 0 → l.getD 0 ≤ m.getD n → m.getD n ≤ n →
          (execOp a.eval o).run P w = .ok (.value (.slice (some (if n = (l.getD 0).toNat then ⟨(ρ k).blk, 0, none⟩ else (⟨(ρ k).blk, 0, none⟩ : Addr).add ((l.getD 0).toNat * ti.size))) ((m.getD n).toNat - (l.getD 0).toNat) (n - (l.getD 0).toNat))) w := fun g0 g1 g2 => by
        have hb := bounds_run2 (a := a) (P := P) (w := w) false (len := n) (cap := n) hl hm g0 g1 g2
        simp [execOp, ho, e1, Instr.sliceAt, underlying, h1, Instr.sureAddr, hb, sizeOf, typeInfo, h2]
      have ok : ∀ (l m : Nat), l ≤ m → m ≤ n → SlOk (ρ k).rv (.lst ti.size ts 0) l (some (m - l)) (.slice (some (if n = l then ⟨(ρ k).blk, 0, none⟩ else (⟨(ρ k).blk, 0, none⟩ : Addr).add (l * ti.size))) (m - l) (n - l)) := fun l m q1 q2 => by
        obtain ⟨h0, A, C, g1, g2, g3⟩ := hr.mem.blk k _ hbk
        refine ⟨_, _, _, rfl, by omega, by omega, (fun e => by cases e), (fun q e => by cases e; omega), A, C, g1, (fun e => by cases e), by omega, fun hc => ?_⟩
        rcases g3 with g3 | ⟨g3, _⟩
        · omega
        · refine ⟨_, _, g3, ?_⟩
          rw [if_neg (by omega), add_addr]
      split at h
      · have := run (by simp) (by simp) (by simp)
        refine did_val h hr (.sl k _ _ _ hbk _ ?_) this
        exact ok 0 n (Nat.zero_le _) (Nat.le_refl _)
      · rename_i hh
        replace h := req_elim h
        obtain ⟨⟨q1, q2⟩, h⟩ := h
        have := run (by simp) (by simpa using q1) (by simpa using q2)
        refine did_val h hr (.sl k _ _ _ hbk _ ?_) this
        exact ok 0 hh.toNat (Nat.zero_le _) (by omega)
      · rename_i ll
        replace h := req_elim h
        obtain ⟨⟨q1, q2⟩, h⟩ := h
        have := run (by simpa using q1) (by simpa using q2) (by simp)
        refine did_val h hr (.sl k _ _ _ hbk _ ?_) this
        exact ok ll.toNat n (by omega) (Nat.le_refl _)
      · rename_i ll hh
        replace h := req_elim h
        obtain ⟨⟨q1, q2, q3⟩, h⟩ := h
        have := run (by simpa using q1) (by simpa using q2) (by simpa using q3)
        refine did_val h hr (.sl k _ _ _ hbk _ ?_) this
        have e2 : (hh - ll).toNat = hh.toNat - ll.toNat := by omega
        rw [e2]
        exact ok ll.toNat hh.toNat (by omega) (by omega)
    · exact h.elim
  · exact h.elim

theorem op_clip (hr : Rel Γ B S ρ ⟨tm, own⟩ a w) {t e : TypeId} {ti : TypeInfo} {x hi mx : Operand} {v vh vm : V} (hx : RelV S w ρ own v (a.eval x)) (hh : RelV S w ρ own vh (a.eval hi)) (hm : RelV S w ρ own vm (a.eval mx))
    (h1 : P.underlying t = some (.slice e)) (h2 : P.info? e = some ti) (ho : o.op = .slice t x none (some hi) (some mx)) {base : Nat} {x' h' m' : Opd} (h : run dr (prog base (.clip ti.size x' h' m') [v, vh, vm]) own log K) : Did P Γ B o a w tm K := by
  simp only [prog] at h
  replace h := intP_elim h
  obtain ⟨k1, z1, rfl, h⟩ := h
  replace h := intP_elim h
  obtain ⟨k2, z2, rfl, h⟩ := h
  have e1 := RelT.int_of hh.t_of
  have e2 := RelT.int_of hm.t_of
  replace h := listFP_elim hr hx h
  obtain ⟨sz, xs, log', h, hT⟩ := h
  replace h := req_elim h
  obtain ⟨⟨rfl, q2, q3, q4⟩, h⟩ := h
  obtain ⟨ad, cap, hu, hc⟩ : ∃ ad cap, a.eval x = .slice ad xs.length cap ∧ xs.length ≤ cap := by
    generalize a.eval x = u at hT
    cases hT with
    | list _ _ ad cap u hcap => exact ⟨ad, cap, rfl, hcap⟩
  rw [hu] at hT
  have hlen : (xs.take z1.toNat).length = z1.toNat := by simp; omega
  have hT2 := list_sub (relist hT q4) (l := 0) (h := z1.toNat) (by omega) (by omega)
  simp only [List.drop_zero, Nat.sub_zero, Nat.zero_mul] at hT2
  have hT3 : RelT S w (.list ti.size (xs.take z1.toNat)) (.slice ad (xs.take z1.toNat).length (xs.take z1.toNat).length) := by
    have e3 : (if cap = 0 then ad else ad.map (·.add 0)) = ad := by
      split
      · rfl
      · cases ad <;> simp [Addr.add]
    rw [e3] at hT2
    obtain ⟨_, g1, g2, u, g3, g4⟩ := hT2.list_of
    exact .list _ _ _ _ u (Nat.le_refl _) g3 g2 g4
  refine did_val h hr (.cl _ _ _ hT3) ?_
  rw [hlen]
  have g3 : z1 ≤ (cap : Int) := by omega
  simp [execOp, ho, hu, e1, e2, Instr.sliceAt, underlying, h1, Instr.slice, Instr.sliceBounds, Instr.sliceBound, asIntOf, q2, g3, sizeOf, typeInfo, h2]
  rw [if_pos (by omega)]
  have e3 : Option.map (fun x => x.add 0) ad = ad := by cases ad <;> simp [Addr.add]
  rw [e3]
  split <;> rfl

theorem ixc_elim {k of sz : Nat} {z : Int} : ∀ {n : Nat}, run dr (ixcP k of sz z n) own log K → ∃ m : Nat, m < n ∧ z = m ∧ K (.ptr k (of + m * sz)) own log
  | 0, h => h.elim
  | n + 1, h => by
    rcases br_elim h with ⟨e, h⟩ | ⟨e, h⟩
    · rw [eqI_def] at e
      exact ⟨n, by omega, by simpa using e, h⟩
    · obtain ⟨m, h1, h2, h3⟩ := ixc_elim h
      exact ⟨m, by omega, h2, h3⟩
theorem op_ixa (hr : Rel Γ B S ρ ⟨tm, own⟩ a w) {x y : Operand} {t e : TypeId} {len : Nat} {i : TypeInfo} {v vi : V} (hx : RelV S w ρ own v (a.eval x)) (hy : RelV S w ρ own vi (a.eval y))
    (h1 : P.underlying t = some (.array len e)) (h2 : P.info? e = some i) (ho : o.op = .indexAddr t x y) {base : Nat} {x' y' : Opd} (h : run dr (prog base (.ixa len i.size x' y') [v, vi]) own log K) : Did P Γ B o a w tm K := by
  simp only [prog] at h
  replace h := intP_elim h
  obtain ⟨ki, z, rfl, h⟩ := h
  have e2 := RelT.int_of hy.t_of
  have run : ∀ ad : Addr, a.eval x = .pointer (some ad) → 0 ≤ z → z < len → (execOp a.eval o).run P w = .ok (.value (.pointer (some (ad.add (z.toNat * i.size))))) w := by
    intro ad e p1 p2
    simp [execOp, ho, e, e2, Instr.indexAt, asIntOf, underlying, h1, Instr.sureAddr, run_sizeOf h2, p1, p2]
  split at h
  · rename_i k of
    have e1 := ptr_of hx
    replace h := rd_elim h
    obtain ⟨b, hb, h⟩ := h
    split at h
    · replace h := natP_elim h
      obtain ⟨hz, h⟩ := h
      rw [Nat.beq_eq] at hz; subst hz
      replace h := req_elim h
      obtain ⟨⟨q1, q2⟩, h⟩ := h
      have r := run _ e1 q1 q2
      rw [add_addr] at r
      refine did_val h hr (.eptr k _ _ _ hb _ fun sz ts m e => ?_) r
      cases e; simp
    · replace h := ixc_elim h
      obtain ⟨m, q1, q2, h⟩ := h
      have r := run _ e1 (by omega) (by omega)
      rw [add_addr] at r
      rw [show z.toNat = m by omega] at r
      exact did_val h hr (.ptr k _ _ hb) r
    · exact h.elim
  · rename_i cs
    split at h
    · rename_i hsz
      obtain ⟨b, of, e1⟩ := ref_of hx.t_of
      replace h := nth_elim h
      obtain ⟨q0, x0, q1, h⟩ := h
      replace h := req_elim h
      obtain ⟨q2, h⟩ := h
      have r := run _ e1 q0 q2
      rw [add_addr, hsz, Nat.mul_one] at r
      have hT := hx.t_of
      rw [e1] at hT
      have hT2 := ref_drop (n := z.toNat) hT
      refine did_val h hr (.t _ _ ?_) r
      cases hT2 with
      | ref _ _ _ u ha hh =>
        have hlt : z.toNat < cs.length := by
          rcases Nat.lt_or_ge z.toNat cs.length with h | h
          · exact h
          · rw [List.getElem?_eq_none h] at q1; cases q1
        refine .ref _ _ _ u (fun j hj => ha j (by simp at hj ⊢; omega)) fun j c hc => ?_
        cases j with
        | succ j => simp at hc
        | zero => simp at hc; subst hc; exact hh 0 _ (by rw [List.getElem?_drop]; exact q1)
    · exact h.elim
  · exact h.elim
theorem op_ixk (hr : Rel Γ B S ρ ⟨tm, own⟩ a w) {x y : Operand} {t e : TypeId} {len : Nat} {i : TypeInfo} {v : V} {ki : IntKind} {z : Int} (hx : RelV S w ρ own v (a.eval x)) (hy : a.eval y = .int ki z) (hz0 : 0 ≤ z)
    (h1 : P.underlying t = some (.array len e)) (h2 : P.info? e = some i) (ho : o.op = .indexAddr t x y) {base : Nat} {x' : Opd} (h : run dr (prog base (.ixk len i.size x' z.toNat) [v]) own log K) : Did P Γ B o a w tm K := by
  simp only [prog] at h
  have run : ∀ ad : Addr, a.eval x = .pointer (some ad) → z < len → (execOp a.eval o).run P w = .ok (.value (.pointer (some (ad.add (z.toNat * i.size))))) w := by
    intro ad e p2
    simp [execOp, ho, e, hy, Instr.indexAt, asIntOf, underlying, h1, Instr.sureAddr, run_sizeOf h2, hz0, p2]
  split at h
  · rename_i k of
    have e1 := ptr_of hx
    replace h := rd_elim h
    obtain ⟨b, hb, h⟩ := h
    split at h
    · replace h := natP_elim h
      obtain ⟨hz, h⟩ := h
      rw [Nat.beq_eq] at hz; subst hz
      replace h := req_elim h
      obtain ⟨q1, h⟩ := h
      have r := run _ e1 (by omega)
      rw [add_addr] at r
      refine did_val h hr (.eptr k _ _ _ hb _ fun sz ts m e => ?_) r
      cases e; simp
    · replace h := req_elim h
      obtain ⟨q1, h⟩ := h
      have r := run _ e1 (by omega)
      rw [add_addr] at r
      exact did_val h hr (.ptr k _ _ hb) r
    · exact h.elim
  · rename_i cs
    replace h := req_elim h
    obtain ⟨q1, h⟩ := h
    obtain ⟨b, of, e1⟩ := ref_of hx.t_of
    have r := run _ e1 (by omega)
    rw [add_addr] at r
    have hT := hx.t_of
    rw [e1] at hT
    exact did_val h hr (.t _ _ (ref_drop hT)) r
  · exact h.elim
theorem op_ixs (hr : Rel Γ B S ρ ⟨tm, own⟩ a w) {x y : Operand} {t e : TypeId} {i : TypeInfo} {v vi : V} (hx : RelV S w ρ own v (a.eval x)) (hy : RelV S w ρ own vi (a.eval y))
    (h1 : P.underlying t = some (.slice e)) (h2 : P.info? e = some i) (ho : o.op = .indexAddr t x y) {base : Nat} {x' y' : Opd} (h : run dr (prog base (.ixs i.size x' y') [v, vi]) own log K) : Did P Γ B o a w tm K := by
  simp only [prog] at h
  replace h := intP_elim h
  obtain ⟨ki, z, rfl, h⟩ := h
  have e2 := RelT.int_of hy.t_of
  have rn : ∀ ad n cap, a.eval x = .slice (some ad) n cap → 0 ≤ z → z < (n : Int) → (execOp a.eval o).run P w = .ok (.value (.pointer (some (ad.add (z.toNat * i.size))))) w := by
    intro ad n cap e p1 p2
    simp [execOp, ho, e, e2, Instr.indexAt, asIntOf, underlying, h1, run_sizeOf h2, p1, p2]
  -- of a list that is settled
  have pure_ : ∀ (sz : Nat) (xs : List T) log', RelT S w (.list sz xs) (a.eval x) → run dr (.nth xs z fun y => natP (Nat.beq sz i.size) (cellsTP y fun l => .ret (.t (.ref l)))) own log' K → Did P Γ B o a w tm K := by
    intro sz xs log' hT h
    replace h := nth_elim h
    obtain ⟨q0, y0, q4, h⟩ := h
    replace h := natP_elim h
    obtain ⟨hz, h⟩ := h
    rw [Nat.beq_eq] at hz; subst hz
    replace h := cellsTP_elim h
    obtain ⟨_, _, h⟩ := h
    generalize hux : a.eval x = ux at hT
    cases hT with
    | list _ _ ad cap f hcap ha hsz hrr =>
      have hlt : z.toNat < xs.length := by
        rcases Nat.lt_or_ge z.toNat xs.length with h | h
        · exact h
        · rw [List.getElem?_eq_none h] at q4; cases q4
      obtain ⟨b, o', rfl, hcell⟩ := ha (by intro e; subst e; simp at hlt)
      have r := rn _ _ _ hux q0 (by omega)
      rw [add_addr] at r
      refine did_val h hr (.t _ _ (.ref _ _ _ (fun j => f z.toNat j) (fun j hj => ?_) fun j c hc => hrr _ _ q4 _ _ hc)) r
      have hj' : j < i.size := by rw [← (hsz y0 (List.mem_of_getElem? q4)).1]; exact hj
      exact hcell _ j hlt hj'
  split at h
  · rename_i k off len
    replace h := rd_elim h
    obtain ⟨b, hb, h⟩ := h
    split at h
    · rename_i sz' ts m
      have hs := sl_of hx hb
      replace h := natP_elim h
      obtain ⟨hz, h⟩ := h
      split at h
      · rw [Nat.beq_eq] at hz; subst hz
        replace h := req_elim h
        obtain ⟨⟨q1, q2⟩, h⟩ := h
        obtain ⟨ad, c, g1, g2, g3, g4, _, _, A, C, g5, g6, g7, g8⟩ := sl_sub hs
        obtain ⟨b', o', p1, p2⟩ := g8 (by omega)
        have hne : ts ≠ [] := fun hn => by
          have : ts.length = 0 := by rw [hn]; rfl
          omega
        obtain ⟨C', arr, e', k1, _⟩ := lst0_cells hr hb hne
        rw [k1] at g5
        simp only [Value.slice.injEq] at g5
        obtain ⟨rfl, _, _⟩ := g5
        simp only [Option.some.injEq, Addr.mk.injEq] at p1
        obtain ⟨rfl, rfl, _⟩ := p1
        subst p2
        have r := rn _ _ _ g1 q1 (by omega)
        rw [add_addr] at r
        refine did_val h hr (.eptr k _ _ _ hb _ fun sz ts m e => ?_) r
        cases e
        simp [Nat.add_mul]
      · exact pure_ _ _ _ (lstF_sub hr hb hs) (by rw [hz]; rw [Nat.beq_eq] at hz; exact h)
    · exact h.elim
  · replace h := listFP_elim hr hx h
    obtain ⟨sz, xs, log', h, hT⟩ := h
    exact pure_ sz xs log' hT h
theorem op_ixstr (hr : Rel Γ B S ρ ⟨tm, own⟩ a w) {x y : Operand} {t : TypeId} {v vi : V} (hx : RelV S w ρ own v (a.eval x)) (hy : RelV S w ρ own vi (a.eval y))
    (h1 : P.underlying t = some .string) (ho : o.op = .index t x y) {base : Nat} {x' y' : Opd} (h : run dr (prog base (.ixstr x' y') [v, vi]) own log K) : Did P Γ B o a w tm K := by
  simp only [prog] at h
  replace h := intP_elim h
  obtain ⟨ki, z, rfl, h⟩ := h
  have e2 := RelT.int_of hy.t_of
  split at h
  · rename_i s
    have e1 := RelT.str_of hx.t_of
    replace h := req_elim h
    obtain ⟨⟨q1, q2⟩, h⟩ := h
    refine did_val h hr (u := .int .u8 _) (.t _ _ (.int _ _)) ?_
    have hlt : z.toNat < s.data.size := by
      have : s.data.size = s.size := rfl
      omega
    have e3 : s[z.toNat]? = some (s.data.toList.getD z.toNat 0) := by
      have : s.data[z.toNat]? = some (s.data.toList.getD z.toNat 0) := by
        simp only [List.getD, Array.getElem?_toList]
        rw [Array.getElem?_eq_getElem hlt]; rfl
      exact this
    simp [execOp, ho, e1, e2, Instr.index, asIntOf, underlying, h1, q1, e3]
  · exact h.elim
theorem op_ixv (hr : Rel Γ B S ρ ⟨tm, own⟩ a w) {x y : Operand} {t e : TypeId} {n : Nat} {ti : TypeInfo} {d : TypeDesc} {v vi : V} (hx : RelV S w ρ own v (a.eval x)) (hy : RelV S w ρ own vi (a.eval y))
    (h1 : P.underlying t = some (.array n e)) (h2 : P.info? e = some ti) (h3 : P.underlying e = some d) (h4 : ti.size = 1) (h5 : aggD d = false) (ho : o.op = .index t x y) {base : Nat} {x' y' : Opd}
    (h : run dr (prog base (.ixv n x' y') [v, vi]) own log K) : Did P Γ B o a w tm K := by
  simp only [prog] at h
  replace h := intP_elim h
  obtain ⟨ki, z, rfl, h⟩ := h
  have e2 := RelT.int_of hy.t_of
  split at h
  · rename_i l
    replace h := nth_elim h
    obtain ⟨q3, y0, q4, h⟩ := h
    replace h := req_elim h
    obtain ⟨q6, h⟩ := h
    obtain ⟨arr, e1, c1, c2⟩ := RelT.agg_of hx.t_of
    obtain ⟨hlt, e4⟩ := arr_get c1 q4
    refine did_val h hr (.t _ _ (c2 _ _ _ q4 e4)) ?_
    have hag : (isAgg e).run P w = .ok false w := by
      cases d <;> simp [aggD] at h5 <;> simp [isAgg, underlying, h3]
    simp [execOp, ho, e1, e2, Instr.index, asIntOf, underlying, h1, q3, q6, part, hag, sizeOf, typeInfo, h2, h4, e4]
  · exact h.elim
end
end Go.Nx
