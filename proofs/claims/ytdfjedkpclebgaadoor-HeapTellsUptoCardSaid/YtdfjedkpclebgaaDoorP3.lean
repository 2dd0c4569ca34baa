/-
  A part of the machine, and of what is walked.
-/
import Derived.Test.YtdfjedkpclebgaaDoorP2
import Derived.Laws.BytesArg
section
set_option linter.unusedVariables false
set_option linter.unusedSimpArgs false
namespace Go.Nx
open Go.RowKit

section
variable {P : Program} {Γ : Env} {B : Base} {S : Cells} {ρ : Infos} {tm : List V} {own : Own} {a : Act} {w : World}
variable {o : Oper} {K : V → Own → Log → Prop} {log : Log} {dr : Bool}

structure Rdl (S : Cells) (w : World) (sz : Nat) (xs : List T) (v : Value) : Prop where
  ex : ∃ ad cap, v = .slice ad xs.length cap ∧ xs.length ≤ cap ∧ ∃ u : Nat → Nat → Value, (xs ≠ [] → ∃ b o, ad = some ⟨b, o, none⟩ ∧ ∀ i j, i < xs.length → j < sz → w.cell? ⟨b, o + i * sz + j, none⟩ = some (u i j)) ∧
    ∀ (i : Nat) (x : T), xs[i]? = some x → ∀ (j : Nat) (c : T), x.cells[j]? = some c → RelT S w c (u i j)
  sz : ∀ x ∈ xs, Flat sz x
theorem rdl_of_t {sz : Nat} {xs : List T} {v : Value} (h : RelT S w (.list sz xs) v) : Rdl S w sz xs v := by
  cases h with
  | list _ _ ad cap u hcap ha hsz hr =>
    refine ⟨⟨ad, cap, rfl, hcap, u, fun hne => ?_, hr⟩, hsz⟩
    obtain ⟨b, o, e, h⟩ := ha hne
    exact ⟨b, o, e, fun i j hi hj => (h i j hi hj).2⟩
theorem rdl_empty {sz : Nat} {a : Option Addr} {c : Nat} : Rdl S w sz [] (.slice a 0 c) :=
  ⟨⟨a, c, rfl, Nat.zero_le _, fun _ _ => undef, fun h => (h rfl).elim, fun i x h => by simp at h⟩, fun x h => by simp at h⟩
theorem lst0_sub (hr : Rel Γ B S ρ ⟨tm, own⟩ a w) {k sz off : Nat} {len : Option Nat} {ts : List T} {v : Value} (hl : look k own = some (.lst sz ts 0)) (hs : SlOk (ρ k).rv (.lst sz ts 0) off len v) : Rdl S w sz (subL ts off len) v := by
  obtain ⟨ad, c, e, hc, _, hle, hget, _, A, C, h4, h5, h6, h7⟩ := sl_sub hs
  have hB := hr.mem.blk k _ hl
  have hsz : ∀ x ∈ subL ts off len, Flat sz x := fun x hx => by
    obtain ⟨i, hi⟩ := List.mem_iff_getElem?.1 hx
    have hlt : i < (subL ts off len).length := by
      rcases Nat.lt_or_ge i (subL ts off len).length with h | h
      · exact h
      · rw [List.getElem?_eq_none h] at hi; cases hi
    rw [hget i hlt] at hi
    exact hB.1 x (List.mem_of_getElem? hi)
  by_cases hne : ts = []
  · have h0 : ts.length = 0 := by rw [hne]; rfl
    have : subL ts off len = [] := List.eq_nil_of_length_eq_zero (by omega)
    rw [this] at e hc ⊢
    subst e; exact rdl_empty
  · obtain ⟨C', arr, e', g1, g2, g3, g4, g5, g6⟩ := lst0_cells hr hl hne
    rw [g1] at h4
    simp only [Value.slice.injEq] at h4
    obtain ⟨rfl, _, rfl⟩ := h4
    refine ⟨⟨ad, c, e, hc, fun i j => (arr[(off + i) * sz + j]?).getD undef, fun hne2 => ?_, fun i x hx j c' hc' => ?_⟩, hsz⟩
    · have hpos : 0 < (subL ts off len).length := List.length_pos_iff.2 hne2
      obtain ⟨b, o, e1, e2⟩ := h7 (by omega)
      simp only [Option.some.injEq, Addr.mk.injEq] at e1
      obtain ⟨rfl, rfl, _⟩ := e1
      refine ⟨_, _, e2, fun i j hi hj => ?_⟩
      rw [cell_row g3]
      have hb : (off + i + 1) * sz ≤ C' * sz := Nat.mul_le_mul_right _ (by omega)
      rw [Nat.add_mul] at hb
      have hlt : (off + i) * sz + j < arr.size := by omega
      have e3 : 0 + off * sz + i * sz + j = (off + i) * sz + j := by rw [Nat.add_mul]; omega
      rw [e3]; simp [hlt]
    · have hlt : i < (subL ts off len).length := by
        rcases Nat.lt_or_ge i (subL ts off len).length with h | h
        · exact h
        · rw [List.getElem?_eq_none h] at hx; cases hx
      rw [hget i hlt] at hx
      obtain ⟨v', q1, q2⟩ := g6 (off + i) x j c' hx hc'
      simpa [q1] using q2
theorem lstF_sub (hr : Rel Γ B S ρ ⟨tm, own⟩ a w) {k sz off m : Nat} {len : Option Nat} {ts : List T} {v : Value} (hl : look k own = some (.lst sz ts (m + 1))) (hs : SlOk (ρ k).rv (.lst sz ts (m + 1)) off len v) : RelT S w (.list sz (subL ts off len)) v := by
  have hB := hr.mem.blk k _ hl
  match m, hB with
  | 0, hB => exact sl_list hB.1 hs
  | m + 1, hB => exact sl_list hB hs
theorem sl_of {k off : Nat} {len : Option Nat} {b : Blk} {u : Value} (h : RelV S w ρ own (.sl k off len) u) (hb : look k own = some b) : SlOk (ρ k).rv b off len u := by
  cases h with
  | sl _ _ _ b' hb' v hv => rw [hb] at hb'; cases hb'; exact hv
theorem cl_of {sz : Nat} {xs : List T} {u : Value} (h : RelV S w ρ own (.cl sz xs) u) : RelT S w (.list sz xs) u ∧ ∃ ad, u = .slice ad xs.length xs.length := by
  cases h with
  | cl _ _ ad h => exact ⟨h, ad, rfl⟩
theorem ce_of {u : Value} (h : RelV S w ρ own .ce u) : ∃ ad, u = .slice (some ad) 0 0 := by
  cases h with
  | ce ad => exact ⟨ad, rfl⟩
theorem nils_of {u : Value} (h : RelT S w .nils u) : u = .slice none 0 0 := by cases h; rfl

theorem listP_elim (hr : Rel Γ B S ρ ⟨tm, own⟩ a w) {v : V} {u : Value} (hv : RelV S w ρ own v u) {f : Nat → List T → Pg} (h : run dr (listP v f) own log K) :
    ∃ sz xs log', run dr (f sz xs) own log' K ∧ Rdl S w sz xs u := by
  unfold listP at h
  split at h
  · split at h
    · exact ⟨_, _, _, h, rdl_of_t hv.t_of⟩
    · have e := nils_of hv.t_of; subst e; exact ⟨_, _, _, h, rdl_empty⟩
    · exact h.elim
  · exact ⟨_, _, _, h, rdl_of_t (cl_of hv).1⟩
  · obtain ⟨ad, e⟩ := ce_of hv; subst e; exact ⟨_, _, _, h, rdl_empty⟩
  · replace h := rd_elim h
    obtain ⟨b, hb, h⟩ := h
    split at h
    · rename_i m
      have hs := sl_of hv hb
      match m, hb, hs with
      | 0, hb, hs => exact ⟨_, _, _, h, lst0_sub hr hb hs⟩
      | m + 1, hb, hs => exact ⟨_, _, _, h, rdl_of_t (lstF_sub hr hb hs)⟩
    · exact h.elim
  · exact h.elim
theorem bytesT_spec : ∀ {xs : List T} {l : List Int}, bytesT xs = some l → xs = l.map (.int .u8)
  | [], l, h => by cases h; rfl
  | x :: r, l, h => by
    unfold bytesT at h
    split at h
    · split at h
      · rename_i l' e
        cases h
        rw [bytesT_spec e]; rfl
      · cases h
    · cases h
theorem op_cvb (hr : Rel Γ B S ρ ⟨tm, own⟩ a w) {x : Operand} {s d e : TypeId} {v : V} (hx : RelV S w ρ own v (a.eval x))
    (h1 : P.underlying s = some (.slice e)) (h2 : P.underlying d = some .string) (h3 : P.underlying e = some (.int .u8)) (ho : o.op = .convert s d x) {base : Nat} {x' : Opd} (h : run dr (prog base (.cvb x') [v]) own log K) : Did P Γ B o a w tm K := by
  simp only [prog] at h
  obtain ⟨sz, xs, log', hK, hl⟩ := listP_elim hr hx h
  clear h
  split at hK
  · exact hK.elim
  · rename_i y r
    unfold natP at hK
    split at hK
    · rename_i hsz
      obtain rfl := Nat.eq_of_beq_eq_true hsz
      split at hK
      · rename_i l hb
        have e0 := bytesT_spec hb
        obtain ⟨ad, cap, ev, hcap, u, hc, hrel⟩ := hl.ex
        obtain ⟨b, off, rfl, hcell⟩ := hc (by simp)
        have hll : (y :: r).length = l.length := by rw [e0, List.length_map]
        refine did_val hK hr (u := .string (strOfNums l)) (.t _ _ (.str _)) ?_
        have hcells : ∀ i, i < (y :: r).length → w.cell? ⟨b, off + i, none⟩ = some (.int .u8 (l.getD i 0)) := fun i hi => by
          have q := hcell i 0 hi (by omega)
          rw [Nat.mul_one, Nat.add_zero] at q
          have hi' : i < l.length := by omega
          have hx' : (y :: r)[i]? = some (.int .u8 l[i]) := by rw [e0, List.getElem?_map, List.getElem?_eq_getElem hi']; rfl
          rw [q, RelT.int_of (hrel i _ hx' 0 _ rfl)]
          simp [List.getD, hi']
        have hrun := run_convert_bytes_arg (P := P) w s e h1 h3 b off (y :: r).length cap l hll.symm hcells d h2
        rw [← ev] at hrun
        simp [execOp, ho, hrun]
      · exact hK.elim
    · exact hK.elim
theorem listFP_elim (hr : Rel Γ B S ρ ⟨tm, own⟩ a w) {v : V} {u : Value} (hv : RelV S w ρ own v u) {f : Nat → List T → Pg} (h : run dr (listFP v f) own log K) :
    ∃ sz xs log', run dr (f sz xs) own log' K ∧ (RelT S w (.list sz xs) u) := by
  have nl : RelT S w (.list 0 []) (.slice none 0 0) := .list 0 [] none 0 (fun _ _ => undef) (Nat.le_refl _) (fun h => (h rfl).elim) (fun x h => by simp at h) fun i x h => by simp at h
  unfold listFP at h
  split at h
  · split at h
    · exact ⟨_, _, _, h, hv.t_of⟩
    · have e := nils_of hv.t_of; subst e; exact ⟨_, _, _, h, nl⟩
    · exact h.elim
  · exact ⟨_, _, _, h, (cl_of hv).1⟩
  · replace h := rd_elim h
    obtain ⟨b, hb, h⟩ := h
    split at h
    · split at h
      · exact h.elim
      · exact ⟨_, _, _, h, lstF_sub hr hb (sl_of hv hb)⟩
    · exact h.elim
  · exact h.elim

theorem op_len (hr : Rel Γ B S ρ ⟨tm, own⟩ a w) {x : Operand} {c : Call} {t e : TypeId} {v : V} (hx : RelV S w ρ own v (a.eval x)) (hc : c.callee = .builtin .len) (ha : c.args = #[x]) (ht : c.argTypes = #[t])
    (hu : P.underlying t = some (.slice e)) (ho : o.op = .call c) {base : Nat} {x' : Opd} (h : run dr (prog base (.len x') [v]) own log K) : Did P Γ B o a w tm K := by
  simp only [prog] at h
  have fin : ∀ (n : Nat) log', (∃ ad cap, a.eval x = .slice ad n cap) → K (.t (.int .i64 n)) own log' → Did P Γ B o a w tm K := by
    intro n log' ⟨ad, cap, e1⟩ hK
    exact did_val hK hr (u := .int .i64 _) (.t _ _ (.int _ _)) (by simp [execOp, ho, resolve, hc, ha, ht, invoke, builtin, Builtin.len_, underlying, hu, e1, goInt])
  split at h
  · replace h := rd_elim h
    obtain ⟨b, hb, h⟩ := h
    split at h
    · obtain ⟨ad, c, e1, _, e2, _⟩ := sl_sub (sl_of hx hb)
      rw [← e2] at h
      exact fin _ _ ⟨ad, c, e1⟩ h
    · exact h.elim
  · obtain ⟨sz, xs, log', hK, hl⟩ := listP_elim hr hx h
    obtain ⟨ad, cap, e1, _⟩ := hl.ex
    exact fin _ _ ⟨ad, cap, e1⟩ hK
theorem op_lens (hr : Rel Γ B S ρ ⟨tm, own⟩ a w) {x : Operand} {c : Call} {t : TypeId} {v : V} (hx : RelV S w ρ own v (a.eval x)) (hc : c.callee = .builtin .len) (ha : c.args = #[x]) (ht : c.argTypes = #[t])
    (hu : P.underlying t = some .string) (ho : o.op = .call c) {base : Nat} {x' : Opd} (h : run dr (prog base (.lens x') [v]) own log K) : Did P Γ B o a w tm K := by
  simp only [prog] at h
  split at h
  · have e1 := RelT.str_of hx.t_of
    exact did_val h hr (u := .int .i64 _) (.t _ _ (.int _ _)) (by simp [execOp, ho, resolve, hc, ha, ht, invoke, builtin, Builtin.len_, underlying, hu, e1, goInt])
  · exact h.elim
theorem op_mx (hr : Rel Γ B S ρ ⟨tm, own⟩ a w) {x y : Operand} {c : Call} {vx vy : V} (hx : RelV S w ρ own vx (a.eval x)) (hy : RelV S w ρ own vy (a.eval y)) (hc : c.callee = .builtin .max) (ha : c.args = #[x, y])
    (ho : o.op = .call c) {base : Nat} {x' y' : Opd} (h : run dr (prog base (.mx x' y') [vx, vy]) own log K) : Did P Γ B o a w tm K := by
  simp only [prog] at h
  split at h
  · have e1 := RelT.int_of hx.t_of
    have e2 := RelT.int_of hy.t_of
    exact did_val h hr (u := .int _ _) (.t _ _ (.int _ _)) (by simp [execOp, ho, resolve, hc, ha, invoke, builtin, run_max_int2, e1, e2, maxI_def])
  · exact h.elim
theorem op_mn (hr : Rel Γ B S ρ ⟨tm, own⟩ a w) {x y : Operand} {c : Call} {vx vy : V} (hx : RelV S w ρ own vx (a.eval x)) (hy : RelV S w ρ own vy (a.eval y)) (hc : c.callee = .builtin .min) (ha : c.args = #[x, y])
    (ho : o.op = .call c) {base : Nat} {x' y' : Opd} (h : run dr (prog base (.mn x' y') [vx, vy]) own log K) : Did P Γ B o a w tm K := by
  simp only [prog] at h
  split at h
  · have e1 := RelT.int_of hx.t_of
    have e2 := RelT.int_of hy.t_of
    exact did_val h hr (u := .int _ _) (.t _ _ (.int _ _)) (by simp [execOp, ho, resolve, hc, ha, invoke, builtin, run_min_int2, e1, e2, minI_def])
  · exact h.elim

theorem run_isn {op : BinOp} {neg : Bool} {t yt : TypeId} {x : Operand} {c u : Value} {b : Bool} (hop : op = if neg then .neq else .eql) (ho : o.op = .binOp op t x (.const c) yt) (hu : a.eval x = u) (h1 : u ≠ .nilIface) (h2 : ∀ cs, u ≠ .agg cs)
    (h3 : ∀ k n, u ≠ .int k n) (h4 : ∀ s, u ≠ .string s) (h5 : ∀ k n, u ≠ .float k n) (h6 : ∀ k n m, u ≠ .complex k n m) (h : (Op.equal t u c).run P w = .ok b w) :
    (execOp a.eval o).run P w = .ok (.value (.bool (if neg then !b else b))) w := by
  have e2 : a.eval (.const c) = c := rfl
  cases neg
  · simp only [if_false, Bool.false_eq_true] at hop
    subst hop
    simp only [execOp, ho, hu, e2, Sem.run_bind, run_eqGuard_plain .eql t x (.const c) u c h1 h2, Result.andThen_ok]
    cases u <;> first
      | exact absurd rfl (h3 _ _)
      | exact absurd rfl (h4 _)
      | exact absurd rfl (h5 _ _)
      | exact absurd rfl (h6 _ _ _)
      | simp [binOp, h]
  · simp only [if_true] at hop
    subst hop
    simp only [execOp, ho, hu, e2, Sem.run_bind, run_eqGuard_plain .neq t x (.const c) u c h1 h2, Result.andThen_ok]
    cases u <;> first
      | exact absurd rfl (h3 _ _)
      | exact absurd rfl (h4 _)
      | exact absurd rfl (h5 _ _)
      | exact absurd rfl (h6 _ _ _)
      | simp [binOp, h]
theorem eqIn_slice (d : Nat) (t e : TypeId) (ad : Option Addr) (n cap : Nat) (h : P.underlying t = some (.slice e)) : (Op.equalIn (d + 1) t (.slice ad n cap) (.slice none 0 0)).run P w = .ok ad.isNone w := by
  cases ad <;> simp [Op.equalIn, underlying, h]
theorem eqIn_func (d : Nat) (t : TypeId) (p q : Array TypeId) (v : Bool) (u : Value) (h : P.underlying t = some (.func p q v)) (hu : u = .nilFunc ∨ ∃ f p q, u = .func f p q) : (Op.equalIn (d + 1) t u .nilFunc).run P w = .ok (match u with | .nilFunc => true | _ => false) w := by
  rcases hu with rfl | ⟨f, p, q, rfl⟩ <;> simp [Op.equalIn, underlying, h]
theorem eqIn_map (d : Nat) (t k e : TypeId) (r : Option Nat) (h : P.underlying t = some (.map k e)) : (Op.equalIn (d + 1) t (.map r) (.map none)).run P w = .ok r.isNone w := by
  cases r <;> simp [Op.equalIn, underlying, h]
theorem eqIn_ptr (d : Nat) (t e : TypeId) (r : Option Addr) (h : P.underlying t = some (.pointer e)) : (Op.equalIn (d + 1) t (.pointer r) (.pointer none)).run P w = .ok r.isNone w := by
  cases r <;> simp [Op.equalIn, underlying, h]
theorem op_isn (hr : Rel Γ B S ρ ⟨tm, own⟩ a w) {x : Operand} {op : BinOp} {neg : Bool} {t yt : TypeId} {d : TypeDesc} {c : Value} {kd : Nat} {v : V} (hx : RelV S w ρ own v (a.eval x)) (ht : P.underlying t = some d) (hk : nilK d c = some kd)
    (hop : op = if neg then .neq else .eql) (ho : o.op = .binOp op t x (.const c) yt) {base : Nat} {x' : Opd} (h : run dr (prog base (.isn kd neg x') [v]) own log K) : Did P Γ B o a w tm K := by
  -- what is asked, of a slice
  have sl : ∀ ad n cap, kd = 0 → a.eval x = .slice ad n cap → ∀ log', K (.t (.bool (if neg then !ad.isNone else ad.isNone))) own log' → Did P Γ B o a w tm K := by
    intro ad n cap hk0 hu log' hK
    unfold nilK at hk
    split at hk <;> first | (cases hk; done) | skip
    · refine did_val hK hr (u := .bool _) (.t _ _ (.bool _)) (run_isn hop ho hu (by simp) (by simp) (by simp) (by simp) (by simp) (by simp) ?_)
      exact eqIn_slice 9999 _ _ _ _ _ ht
    all_goals (simp at hk; omega)
  have fn : ∀ (b : Bool), kd = 1 → (a.eval x = .nilFunc ∧ b = true ∨ (∃ f p q, a.eval x = .func f p q) ∧ b = false) → ∀ log', K (.t (.bool (if neg then !b else b))) own log' → Did P Γ B o a w tm K := by
    intro b hk0 hu log' hK
    unfold nilK at hk
    split at hk <;> first | (cases hk; done) | skip
    · simp at hk; omega
    · rcases hu with ⟨hu, rfl⟩ | ⟨⟨f, p, q, hu⟩, rfl⟩
      · refine did_val hK hr (u := .bool _) (.t _ _ (.bool _)) (run_isn hop ho hu (by simp) (by simp) (by simp) (by simp) (by simp) (by simp) ?_)
        exact eqIn_func 9999 _ _ _ _ _ ht (.inl rfl)
      · refine did_val hK hr (u := .bool _) (.t _ _ (.bool _)) (run_isn hop ho hu (by simp) (by simp) (by simp) (by simp) (by simp) (by simp) ?_)
        exact eqIn_func 9999 _ _ _ _ _ ht (.inr ⟨_, _, _, rfl⟩)
    all_goals (simp at hk; omega)
  have mp : ∀ r : Option Nat, kd = 2 → a.eval x = .map r → ∀ log', K (.t (.bool (if neg then !r.isNone else r.isNone))) own log' → Did P Γ B o a w tm K := by
    intro r hk0 hu log' hK
    unfold nilK at hk
    split at hk <;> first | (cases hk; done) | skip
    · simp at hk; omega
    · simp at hk; omega
    · refine did_val hK hr (u := .bool _) (.t _ _ (.bool _)) (run_isn hop ho hu (by simp) (by simp) (by simp) (by simp) (by simp) (by simp) ?_)
      exact eqIn_map 9999 _ _ _ _ ht
    · simp at hk; omega
  have pt : ∀ r : Option Addr, kd ≠ 0 → kd ≠ 1 → kd ≠ 2 → a.eval x = .pointer r → ∀ log', K (.t (.bool (if neg then !r.isNone else r.isNone))) own log' → Did P Γ B o a w tm K := by
    intro r hk0 hk1 hk2 hu log' hK
    unfold nilK at hk
    split at hk <;> first | (cases hk; done) | skip
    · simp at hk; omega
    · simp at hk; omega
    · simp at hk; omega
    · refine did_val hK hr (u := .bool _) (.t _ _ (.bool _)) (run_isn hop ho hu (by simp) (by simp) (by simp) (by simp) (by simp) (by simp) ?_)
      exact eqIn_ptr 9999 _ _ _ ht
  have neg1 : (if neg = true then !true else true) = !neg := by cases neg <;> rfl
  have neg0 : (if neg = true then !false else false) = neg := by cases neg <;> rfl
  -- of a list, empty or not
  have ls : ∀ (xs : List T) ad n cap log', kd = 0 → a.eval x = .slice ad n cap → (xs ≠ [] → ad.isNone = false) → run dr (.alt (xs = []) (.ret (.t (.bool neg))) (.ret (.t (.bool (!neg))))) own log' K → Did P Γ B o a w tm K := by
    intro xs ad n cap log' hk0 hu hne h
    obtain ⟨h1, h2⟩ := alt_elim h
    cases e : ad.isNone
    · exact sl ad n cap hk0 hu log' (by rw [e, neg0]; exact h1)
    · have hxs : xs = [] := by
        by_cases hh : xs = []
        · exact hh
        · rw [hne hh] at e; cases e
      exact sl ad n cap hk0 hu log' (by rw [e, neg1]; exact h2 hxs)
  simp only [prog] at h
  split at h
  · split at h
    · exact sl none 0 0 rfl (nils_of hx.t_of) _ (by simpa [neg1, run_ret] using h)
    · have hT := hx.t_of
      generalize hu : a.eval x = u at hT
      cases hT with
      | list _ _ ad cap u' hcap ha hsz hrr =>
        refine ls _ ad _ cap _ rfl hu (fun hne => ?_) h
        obtain ⟨b, o', e, _⟩ := ha hne
        rw [e]; rfl
    · obtain ⟨hT, _⟩ := cl_of hx
      generalize hu : a.eval x = u at hT
      cases hT with
      | list _ xs ad cap u' hcap ha hsz hrr =>
        refine ls _ ad _ cap _ rfl hu (fun hne => ?_) h
        obtain ⟨b, o', e, _⟩ := ha hne
        rw [e]; rfl
    · obtain ⟨ad, e⟩ := ce_of hx
      exact sl (some ad) 0 0 rfl e _ (by simpa [neg0, run_ret] using h)
    · replace h := rd_elim h
      obtain ⟨b, hb, h⟩ := h
      split at h
      · rename_i sz ts m
        obtain ⟨ad, c, e1, hc, _, hle, _, _, A, C, g4, g5, g6, g7⟩ := sl_sub (sl_of hx hb)
        refine ls _ ad _ c _ rfl e1 (fun hne => ?_) h
        have hpos : 0 < (subL ts _ _).length := List.length_pos_iff.2 hne
        obtain ⟨b', o', _, e2⟩ := g7 (by omega)
        rw [e2]; rfl
      · exact h.elim
    · exact h.elim
  · split at h
    · have hT := hx.t_of
      generalize hu : a.eval x = u at hT
      cases hT
      exact fn true rfl (.inl ⟨hu, rfl⟩) _ (by rw [neg1]; exact h)
    · have hT := hx.t_of
      generalize hu : a.eval x = u at hT
      cases hT
      exact fn false rfl (.inr ⟨⟨_, _, _, hu⟩, rfl⟩) _ (by rw [neg0]; exact h)
    · generalize hu : a.eval x = u at hx
      cases hx
      exact fn false rfl (.inr ⟨⟨_, _, _, hu⟩, rfl⟩) _ (by rw [neg0]; exact h)
    · exact h.elim
  · split at h
    · have hT := hx.t_of
      generalize hu : a.eval x = u at hT
      cases hT
      exact mp none rfl hu _ (by simpa [neg1, run_ret] using h)
    · generalize hu : a.eval x = u at hx
      cases hx
      exact mp _ rfl hu _ (by simpa [neg0, run_ret] using h)
    · exact h.elim
  · rename_i q0 q1 q2
    split at h
    · have hT := hx.t_of
      generalize hu : a.eval x = u at hT
      cases hT
      exact pt none q0 q1 q2 hu _ (by simpa [neg1, run_ret] using h)
    · obtain ⟨b, o', e⟩ := ref_of hx.t_of
      exact pt _ q0 q1 q2 e _ (by simpa [neg0, run_ret] using h)
    · exact pt _ q0 q1 q2 (ptr_of hx) _ (by simpa [neg0, run_ret] using h)
    · generalize hu : a.eval x = u at hx
      cases hx
      exact pt _ q0 q1 q2 hu _ (by simpa [neg0, run_ret] using h)
    · exact h.elim
end
end Go.Nx
end
section
set_option linter.unusedVariables false
set_option linter.unusedSimpArgs false
namespace Go.Nx
open Go.RowKit

section
variable {P : Program} {Γ : Env} {B : Base} {S : Cells} {ρ : Infos} {tm : List V} {own : Own} {a : Act} {w : World}
variable {o : Oper} {K : V → Own → Log → Prop} {log : Log} {dr : Bool}

theorem fill_run {f : Nat → Option (Nat × Nat)} : ∀ (ps : List (Nat × Operand)) (l : List (Nat × Nat × Opd)) (vs : List V) (cs : List V) (cells : Array Value) (F : List V → Pg), partsOf f ps = some l → vs.length = ps.length →
    (∀ (i : Nat) (p : Nat × Operand) (v : V), ps[i]? = some p → vs[i]? = some v → RelV S w ρ own v (a.eval p.2)) →
    RelV S w ρ own (.agg cs) (.agg cells) → run dr (fillP l vs cs F) own log K → ∃ cs' cells', run dr (F cs') own log K ∧ RelV S w ρ own (.agg cs') (.agg cells') ∧ Instr.fill f cells (ps.map fun p => (p.1, a.eval p.2)) = some cells' := by
  intro ps
  induction ps with
  | nil =>
    intro l vs cs cells F hp hl hv hrel h
    simp [partsOf] at hp; subst hp
    have : vs = [] := List.eq_nil_of_length_eq_zero (by simpa using hl)
    subst this
    exact ⟨cs, cells, h, hrel, by simp [Instr.fill]⟩
  | cons p ps ih =>
    intro l vs cs cells F hp hl hv hrel h
    obtain ⟨i, x⟩ := p
    cases vs with
    | nil => simp at hl
    | cons v vs =>
      simp only [partsOf] at hp
      split at hp
      · rename_i q y ys h1 h2 h3
        obtain ⟨off, n⟩ := q
        simp only at hp
        split at hp
        · cases hp
        rename_i hn0
        cases hp
        have hx : RelV S w ρ own v (a.eval x) := hv 0 (i, x) v rfl rfl
        simp only [fillP] at h
        replace h := cellsP_elim h
        obtain ⟨c1, c2, h⟩ := h
        replace h := lenP_elim h
        obtain ⟨c3, h⟩ := h
        replace h := putNP_elim h
        obtain ⟨c4, h⟩ := h
        obtain ⟨d1, d2⟩ := hx.cells c1
        obtain ⟨d3, d4⟩ : cells.size = cs.length ∧ ∀ (i : Nat) (c : V) (u : Value), cs[i]? = some c → cells[i]? = some u → RelV S w ρ own c u := by
          cases hrel with
          | agg _ _ h1 h2 => exact ⟨h1, h2⟩
        have hz : v.cells ≠ [] := fun e => by rw [e] at c3; simp at c3; omega
        have hb : off + v.cells.length ≤ cs.length := by
          rcases c4 with c4 | c4
          · exact absurd c4 hz
          · exact c4
        have e2 : ((a.eval x).cells.zipIdx.foldl (fun cs (c, j) => cs.setIfInBounds (off + j) c) cells).toList = putN cells.toList off (a.eval x).cells.toList := by
          have := fill_foldl off (a.eval x).cells.toList 0 cells (by simp; omega)
          rw [Nat.add_zero] at this
          rw [← this, ← Array.foldl_toList, Array.toList_zipIdx]
        have hrel' : RelV S w ρ own (.agg (putN cs off v.cells)) (.agg ((a.eval x).cells.zipIdx.foldl (fun cs (c, j) => cs.setIfInBounds (off + j) c) cells)) := by
          refine .agg _ _ ?_ fun j c u hc hu => ?_
          · rw [← Array.length_toList, e2, putN_length _ _ _ (.inr (by simp; omega)), putN_length _ _ _ (.inr hb)]; simpa using d3
          · rw [putN_get _ _ _ j hb] at hc
            rw [← Array.getElem?_toList, e2, putN_get _ _ _ j (by simp; omega)] at hu
            by_cases c5 : off ≤ j ∧ j < off + v.cells.length
            · rw [if_pos c5] at hc
              rw [if_pos (by simp; omega)] at hu
              exact d2 _ _ _ hc (by simpa using hu)
            · rw [if_neg c5] at hc
              rw [if_neg (by simp; omega)] at hu
              exact d4 _ _ _ hc (by simpa using hu)
        obtain ⟨cs', cells', g1, g2, g3⟩ := ih ys vs _ _ F h3 (by simpa using hl) (fun i p v hp hv' => hv (i + 1) p v (by simpa using hp) (by simpa using hv')) hrel' h
        refine ⟨cs', cells', g1, g2, ?_⟩
        simp only [List.map_cons, Instr.fill, h1]
        rw [if_neg (by simp; omega)]
        exact g3
      · cases hp
theorem op_bld (hr : Rel Γ B S ρ ⟨tm, own⟩ a w) {t : TypeId} {ps : Array (Nat × Operand)} {z : List T} {f : Nat → Option (Nat × Nat)} {l : List (Nat × Nat × Opd)} {vs : List V} (hz : ofZero P t = some z)
    (hf : placeOf P t = some f) (hl : partsOf f ps.toList = some l) (hn : vs.length = ps.toList.length) (hv : ∀ (i : Nat) (p : Nat × Operand) (v : V), ps.toList[i]? = some p → vs[i]? = some v → RelV S w ρ own v (a.eval p.2))
    (ho : o.op = .build t ps) {base : Nat} (h : run dr (prog base (.bld z l) vs) own log K) : Did P Γ B o a w tm K := by
  simp only [prog] at h
  replace h := tagP_elim h
  obtain ⟨i, v, h1, h2, h3, h4⟩ := ofZero_spec hz
  obtain ⟨i', v', g1, g2, g3⟩ := placeOf_spec hf
  rw [h1] at g1; cases g1
  rw [h2] at g2; cases g2
  obtain ⟨cs', cells', k1, k2, k3⟩ := fill_run ps.toList l vs (z.map .t) v.cells _ hl hn hv (.agg _ _ (by simpa using h3) (RelV.of_ts (h4 S w))) h
  obtain ⟨q1, q2⟩ : cells'.size = cs'.length ∧ ∀ (i : Nat) (c : V) (u : Value), cs'[i]? = some c → cells'[i]? = some u → RelV S w ρ own c u := by
    cases k2 with
    | agg _ _ h1 h2 => exact ⟨h1, h2⟩
  refine did_val k1 hr (u := .agg cells') (rel_aggV q1 q2) ?_
  have := run_build (P := P) w t (ps.map fun p => (p.1, a.eval p.2)) cells' (by rw [g3]; simpa using k3)
  simp [execOp, ho, this]

theorem elsP_elim {sz : Nat} : ∀ {ts : List T} {f : List T → Pg}, run dr (elsP sz ts f) own log K → run dr (f ts) own log K ∧ ∀ x ∈ ts, x.cells.length = sz ∧ (x.one = true ∨ ∃ cs, x = .agg cs) ∧ ∀ c ∈ x.cells, c.one = true
  | [], f, h => ⟨h, fun x hx => by simp at hx⟩
  | x :: ts, f, h => by
    simp only [elsP] at h
    replace h := cellsTP_elim h
    obtain ⟨h1, h2, h⟩ := h
    replace h := lenP_elim h
    obtain ⟨h3, h⟩ := h
    obtain ⟨h4, h5⟩ := elsP_elim h
    refine ⟨h4, fun y hy => ?_⟩
    rcases List.mem_cons.1 hy with rfl | hy
    · exact ⟨h3, h1, h2⟩
    · exact h5 y hy
theorem op_bslt (hr : Rel Γ B S ρ ⟨tm, own⟩ a w) {t e : TypeId} {n : Nat} {ps : Array (Nat × Operand)} {ti : TypeInfo} {z : Value} {xs : List Opd} {vs : List V} (h1 : P.underlying t = some (.slice e)) (h2 : P.info? e = some ti)
    (h3 : ti.zero = some z) (h5 : ps.toList.map (·.1) = List.range n) (h6 : n * ti.size ≤ 2 ^ 24) (hn : vs.length = ps.toList.length) (hv : ∀ (i : Nat) (p : Nat × Operand) (v : V), ps.toList[i]? = some p → vs[i]? = some v → RelV S w ρ own v (a.eval p.2))
    (ho : o.op = .buildSlice t n ps) {base : Nat} (h : run dr (prog base (.bslt ti.size xs) vs) own log K) : Did P Γ B o a w tm K := by
  have hlen : ps.toList.length = n := by have := congrArg List.length h5; simpa using this
  simp only [prog] at h
  -- what the program makes, its elements known
  have made : ∀ (us : List Value), us = ps.toList.map (fun p => a.eval p.2) → (∀ v ∈ us, v.cells.size = ti.size) → ∃ cells' : Array Value, cells'.size = n * ti.size ∧
      (execOp a.eval o).run P w = .ok (.value (.slice (some ⟨w.heap.size, 0, none⟩) n n)) { w with heap := w.heap.push (.cells cells' e) } ∧
      ∀ (i : Nat) (v : Value), us[i]? = some v → ∀ (j : Nat) (c : Value), v.cells[j]? = some c → cells'[i * ti.size + j]? = some c := by
    intro us hus ucell
    have husl : us.length = n := by rw [hus]; simpa using hlen
    let zs : Array Value := if n * ti.size = 0 then #[] else z.cells
    let bs : Array Value := (Array.range (n * ti.size)).map (zs[· % zs.size]!)
    obtain ⟨cells', g1, g2, _, g4⟩ := fill_elems ti.size us 0 bs ucell (by simp [bs, husl])
    have hzip : ((List.range' 0 us.length).zip us) = (ps.map fun p => (p.1, a.eval p.2)).toList := by
      rw [husl, ← List.range_eq_range', ← h5, hus]
      simp only [Array.toList_map]
      generalize ps.toList = l
      induction l with
      | nil => rfl
      | cons x l ih => simp [ih]
    rw [hzip] at g1
    refine ⟨cells', by rw [g2]; simp [bs], ?_, fun i v hi j c hc => by simpa using g4 i v hi j c hc⟩
    have hno : ¬ n * ti.size > 2 ^ 24 := by omega
    by_cases hz : n * ti.size = 0
    · simp only [bs, zs, hz, if_true] at g1
      have hno' : ¬ 0 > 2 ^ 24 := by decide
      simp only [execOp, ho, Instr.buildSlice, underlying, sizeOf, typeInfo, h1, h2, Sem.run_bind, run_program, Result.andThen_ok, Sem.run_pure, hz, if_true, hno', if_false, newRow, run_newObj]
      simp only [g1, Sem.run_bind, run_newObj, Result.andThen_ok, Sem.run_pure]
    · simp only [bs, zs, hz, if_false] at g1
      simp only [execOp, ho, Instr.buildSlice, underlying, sizeOf, typeInfo, zeroValue, h1, h2, h3, Sem.run_bind, run_program, Result.andThen_ok, Sem.run_pure, hz, if_false, hno, newRow, run_newObj]
      simp only [g1, Sem.run_bind, run_newObj, Result.andThen_ok, Sem.run_pure]
  split at h
  · have hn0 : n = 0 := by rw [← hlen, ← hn]; rfl
    subst hn0
    have hps : ps.toList = [] := List.eq_nil_of_length_eq_zero hlen
    obtain ⟨cells', c1, c2, _⟩ := made [] (by rw [hps]; rfl) (fun v hv => by simp at hv)
    have hb : Below w.heap.size w { w with heap := w.heap.push (.cells cells' e) } := (Keep.alloc (fun _ _ => False) w _).below
    exact ⟨_, _, _, _, ρ, _, _, h, hr.called hb, .ce _, .inl c2⟩
  · replace h := toTs_ok (toT_ok 8) vs (ps.toList.map fun p => a.eval p.2) S own log _ (by simpa using hn.symm) hr (fun i c zv hc hz => by
      simp only [List.getElem?_map, Option.map_eq_some_iff] at hz
      obtain ⟨p, hp, rfl⟩ := hz
      exact hv i p c hp hc) h
    obtain ⟨ts, own1, S1, log1, h, c1, hl1, hts⟩ := h
    obtain ⟨h, hels⟩ := elsP_elim h
    have hr1 := c1.rel
    have rel : ∀ (i : Nat) (c : T) (u : Value), ts[i]? = some c → (ps.toList.map fun p => a.eval p.2)[i]? = some u → RelT S1 w c u ∧ (c.one = true ∨ ∃ cs, c = .agg cs) := fun i c u hc hu => ⟨hts i c u hc hu, (hels c (List.mem_of_getElem? hc)).2.1⟩
    have htl : ts.length = n := by omega
    obtain ⟨cells', k1, k2, k3⟩ := made _ rfl (fun v hv' => by
      obtain ⟨i, hi⟩ := List.mem_iff_getElem?.1 hv'
      have hlt : i < ts.length := by
        rw [htl, ← hlen]
        rcases Nat.lt_or_ge i ps.toList.length with h | h
        · exact h
        · rw [List.getElem?_eq_none (by simpa using h)] at hi; cases hi
      have e : ts[i]? = some ts[i] := by simp [hlt]
      obtain ⟨r1, r2⟩ := rel i _ v e hi
      rw [(RelT.cells r1 r2).1, (hels _ (List.mem_of_getElem? e)).1])
    have hk := Keep.alloc (fun _ _ => False) w (.cells cells' e)
    have hb : Below w.heap.size w { w with heap := w.heap.push (.cells cells' e) } := hk.below
    have hr' := hr1.called hb
    rw [← htl] at k2
    refine ⟨_, _, _, _, ρ, _, _, h, hr', .cl _ _ _ ?_, .inl k2⟩
    refine .list ti.size ts _ ts.length (fun i j => (cells'[i * ti.size + j]?).getD undef) (Nat.le_refl _) (fun _ => ⟨w.heap.size, 0, rfl, fun i j hi hj => ⟨.inr ⟨by omega, by simp⟩, ?_⟩⟩) (fun x hx => ⟨(hels x hx).1, (hels x hx).2.2⟩) fun i x hx j c hc => ?_
    · have hlt : i * ti.size + j < cells'.size := by
        rw [k1, ← htl]
        have : (i + 1) * ti.size ≤ ts.length * ti.size := Nat.mul_le_mul_right _ hi
        simp only [Nat.add_mul] at this; omega
      rw [Nat.zero_add, cell?_eq]
      simp [hlt]
    · have hlt : i < ts.length := by
        rcases Nat.lt_or_ge i ts.length with h | h
        · exact h
        · rw [List.getElem?_eq_none h] at hx; cases hx
      have hlt2 : i < ps.toList.length := by omega
      have e1 : (ps.toList.map fun p => a.eval p.2)[i]? = some (a.eval (ps.toList[i]).2) := by simp [List.getElem?_eq_getElem hlt2]
      obtain ⟨r1, r2⟩ := rel i x _ hx e1
      obtain ⟨r3, r4⟩ := RelT.cells r1 r2
      obtain ⟨hj, e2⟩ := arr_get r3 hc
      rw [k3 i _ e1 j _ e2]
      exact (r4 j c _ hc e2).keep (fun _ _ h => .inl h) hk (fun _ _ h => h.elim) hr1.mem.lt

theorem bndP_elim {x : Option Opd} {vs : List V} {f : Option Int → List V → Pg} (h : run dr (bndP x vs f) own log K) : (x = none ∧ run dr (f none vs) own log K) ∨ ∃ y k z r, x = some y ∧ vs = .t (.int k z) :: r ∧ run dr (f (some z) r) own log K := by
  unfold bndP at h
  split at h
  · exact .inl ⟨rfl, h⟩
  · split at h
    · obtain ⟨k, z, e, h⟩ := intP_elim h
      subst e
      exact .inr ⟨_, k, z, _, rfl, rfl, h⟩
    · exact h.elim
structure Bnds (S : Cells) (w : World) (ρ : Infos) (own : Own) (a : Act) (lo hi : Option Operand) (lo' hi' : Option Opd) (vs : List V) : Prop where
  l0 : lo = none ↔ lo' = none
  h0 : hi = none ↔ hi' = none
  v1 : ∀ y v r, lo = some y → vs = v :: r → RelV S w ρ own v (a.eval y)
  v2 : ∀ y v r, lo = none → hi = some y → vs = v :: r → RelV S w ρ own v (a.eval y)
  v3 : ∀ x y u v r, lo = some x → hi = some y → vs = u :: v :: r → RelV S w ρ own v (a.eval y)
theorem bnds_elim {lo hi : Option Operand} {lo' hi' : Option Opd} {vs : List V} (hb : Bnds S w ρ own a lo hi lo' hi' vs) {F : Option Int → Option Int → Pg} (h : run dr (bndP lo' vs fun l vs => bndP hi' vs fun m _ => F l m) own log K) :
    ∃ l m : Option Int, run dr (F l m) own log K ∧ ((lo = none ∧ l = none) ∨ ∃ y k z, lo = some y ∧ l = some z ∧ a.eval y = .int k z) ∧ ((hi = none ∧ m = none) ∨ ∃ y k z, hi = some y ∧ m = some z ∧ a.eval y = .int k z) := by
  rcases bndP_elim h with ⟨e, h⟩ | ⟨y, k, z, r, e, e2, h⟩
  · have el := hb.l0.2 e
    rcases bndP_elim h with ⟨e3, h⟩ | ⟨y3, k3, z3, r3, e3, e4, h⟩
    · exact ⟨none, none, h, .inl ⟨el, rfl⟩, .inl ⟨hb.h0.2 e3, rfl⟩⟩
    · cases eh : hi with
      | none => rw [hb.h0.1 eh] at e3; cases e3
      | some q => exact ⟨none, some z3, h, .inl ⟨el, rfl⟩, .inr ⟨q, k3, z3, rfl, rfl, RelT.int_of (hb.v2 q _ _ el eh e4).t_of⟩⟩
  · cases el : lo with
    | none => rw [hb.l0.1 el] at e; cases e
    | some p =>
      have r1 := RelT.int_of (hb.v1 p _ _ el e2).t_of
      rcases bndP_elim h with ⟨e3, h⟩ | ⟨y3, k3, z3, r3, e3, e4, h⟩
      · exact ⟨some z, none, h, .inr ⟨p, k, z, rfl, rfl, r1⟩, .inl ⟨hb.h0.2 e3, rfl⟩⟩
      · cases eh : hi with
        | none => rw [hb.h0.1 eh] at e3; cases e3
        | some q => exact ⟨some z, some z3, h, .inr ⟨p, k, z, rfl, rfl, r1⟩, .inr ⟨q, k3, z3, rfl, rfl, RelT.int_of (hb.v3 p q _ _ _ el eh (by rw [e2, e4])).t_of⟩⟩
theorem bounds_run2 (isS : Bool) {len cap : Nat} {lo hi : Option Operand} {l m : Option Int} (hl : (lo = none ∧ l = none) ∨ ∃ y k z, lo = some y ∧ l = some z ∧ a.eval y = .int k z)
    (hm : (hi = none ∧ m = none) ∨ ∃ y k z, hi = some y ∧ m = some z ∧ a.eval y = .int k z) (h0 : 0 ≤ l.getD 0) (h1 : l.getD 0 ≤ m.getD len) (h2 : m.getD len ≤ cap) :
    (Instr.sliceBounds isS len cap (lo.map a.eval) (hi.map a.eval) none).run P w = .ok ((l.getD 0).toNat, (m.getD len).toNat, cap) w := by
  refine bounds_run isS ?_ ?_ h0 h1 h2
  · rcases hl with ⟨e1, e2⟩ | ⟨y, k, z, e1, e2, e3⟩
    · exact .inl ⟨e1, by rw [e2]; rfl⟩
    · exact .inr ⟨y, k, e1, by rw [e2]; exact e3⟩
  · rcases hm with ⟨e1, e2⟩ | ⟨y, k, z, e1, e2, e3⟩
    · exact .inl ⟨e1, by rw [e2]; rfl⟩
    · exact .inr ⟨y, k, e1, by rw [e2]; exact e3⟩

theorem op_slstr (hr : Rel Γ B S ρ ⟨tm, own⟩ a w) {t : TypeId} {x : Operand} {lo hi : Option Operand} {lo' hi' : Option Opd} {v : V} {vs : List V} (hx : RelV S w ρ own v (a.eval x)) (hb : Bnds S w ρ own a lo hi lo' hi' vs)
    (h1 : P.underlying t = some .string) (ho : o.op = .slice t x lo hi none) {base : Nat} {x' : Opd} (h : run dr (prog base (.slstr x' lo' hi') (v :: vs)) own log K) : Did P Γ B o a w tm K := by
  simp only [prog] at h
  split at h
  · rename_i s
    have e1 := RelT.str_of hx.t_of
    obtain ⟨l, m, h, hl, hm⟩ := bnds_elim hb h
    replace h := req_elim h
    obtain ⟨⟨g1, g2, g3⟩, h⟩ := h
    refine did_val h hr (u := .string _) (.t _ _ (.str _)) ?_
    simp [execOp, ho, e1, Instr.sliceAt, underlying, h1, Instr.slice, bounds_run2 (a := a) (P := P) (w := w) false hl hm g1 g2 g3]
  · exact h.elim

theorem run_sll {t e : TypeId} {ti : TypeInfo} {x : Operand} {lo hi : Option Operand} {l m : Option Int} {ad : Option Addr} {n cap : Nat} (h1 : P.underlying t = some (.slice e)) (h2 : P.info? e = some ti) (ho : o.op = .slice t x lo hi none)
    (hu : a.eval x = .slice ad n cap) (hl : (lo = none ∧ l = none) ∨ ∃ y k z, lo = some y ∧ l = some z ∧ a.eval y = .int k z) (hm : (hi = none ∧ m = none) ∨ ∃ y k z, hi = some y ∧ m = some z ∧ a.eval y = .int k z)
    (g0 : 0 ≤ l.getD 0) (g1 : l.getD 0 ≤ m.getD n) (g2 : m.getD n ≤ cap) :
    (execOp a.eval o).run P w = .ok (.value (.slice (if cap = (l.getD 0).toNat then ad else ad.map (·.add ((l.getD 0).toNat * ti.size))) ((m.getD n).toNat - (l.getD 0).toNat) (cap - (l.getD 0).toNat))) w := by
  have hb := bounds_run2 (a := a) (P := P) (w := w) true hl hm g0 g1 g2
  simp [execOp, ho, hu, Instr.sliceAt, underlying, h1, Instr.slice, hb, sizeOf, typeInfo, h2]
theorem slok_cut {rv : Value} {sz m off l n : Nat} {ts : List T} {len len' : Option Nat} {ad : Option Addr} {cnt cap : Nat} (h : SlOk rv (.lst sz ts m) off len (.slice ad cnt cap)) (hl : l ≤ n) (hn : n ≤ cnt)
    (h1 : len' = none → len = none ∧ n = cnt) (h2 : ∀ q, len' = some q → q = n - l) : SlOk rv (.lst sz ts m) (off + l) len' (.slice (if cap = l then ad else ad.map (·.add (l * sz))) (n - l) (cap - l)) := by
  obtain ⟨a', n', c', e, hnc, g1, g2, g3, A, C, g4, g5, g6, g7⟩ := h
  simp only [Value.slice.injEq] at e
  obtain ⟨rfl, rfl, rfl⟩ := e
  have hoff : off + cnt ≤ ts.length := by
    cases len with
    | none => have := g2 rfl; omega
    | some q => have := g3 q rfl; omega
  refine ⟨_, _, _, rfl, by omega, by omega, fun e => ?_, fun q e => ?_, A, C, g4, fun e => ?_, by omega, fun hc => ?_⟩
  · obtain ⟨e1, e2⟩ := h1 e
    have := g2 e1; omega
  · have := h2 q e; omega
  · obtain ⟨e1, e2⟩ := h1 e
    have := g5 e1; omega
  · obtain ⟨b, o, e1, e2⟩ := g7 (by omega)
    refine ⟨b, o, e1, ?_⟩
    rw [if_neg (by omega), e2, Option.map_some, add_addr, Nat.add_mul]
    congr 2; omega
theorem list_sub {sz l h : Nat} {xs : List T} {ad : Option Addr} {cap : Nat} (hr : RelT S w (.list sz xs) (.slice ad xs.length cap)) (h1 : l ≤ h) (h2 : h ≤ xs.length) :
    RelT S w (.list sz ((xs.drop l).take (h - l))) (.slice (if cap = l then ad else ad.map (·.add (l * sz))) (h - l) (cap - l)) := by
  cases hr with
  | list _ _ _ _ u hcap ha hsz hrr =>
    have hlen : ((xs.drop l).take (h - l)).length = h - l := by simp; omega
    have key : RelT S w (.list sz ((xs.drop l).take (h - l))) (.slice (if cap = l then ad else ad.map (·.add (l * sz))) ((xs.drop l).take (h - l)).length (cap - l)) := by
      refine .list sz _ _ _ (fun i j => u (l + i) j) (by rw [hlen]; omega) (fun hne => ?_) (fun x hx => hsz x (List.mem_of_mem_drop (List.mem_of_mem_take hx))) fun i x hx j c hc => ?_
      · have hpos : 0 < h - l := by rw [← hlen]; exact List.length_pos_iff.2 hne
        have hxs : xs ≠ [] := by intro e; subst e; simp at h2; omega
        obtain ⟨b, o, e, hh⟩ := ha hxs
        subst e
        refine ⟨b, o + l * sz, ?_, fun i j hi hj => ?_⟩
        · rw [if_neg (by omega)]
          simp only [Option.map_some, Addr.add]
          split <;> simp_all
        · rw [hlen] at hi
          have := hh (l + i) j (by omega) hj
          rw [Nat.add_mul] at this
          have e : o + l * sz + i * sz + j = o + (l * sz + i * sz) + j := by omega
          rw [e]; exact this
      · have hx' : xs[l + i]? = some x := by
          rw [List.getElem?_take] at hx
          split at hx
          · simpa using hx
          · cases hx
        exact hrr (l + i) x hx' j c hc
    rw [hlen] at key
    exact key
theorem relist {sz sz' : Nat} {xs : List T} {u : Value} (h : RelT S w (.list sz' xs) u) (hs : xs = [] ∨ sz' = sz) : RelT S w (.list sz xs) u := by
  rcases hs with rfl | rfl
  · cases h with
    | list _ _ ad cap u hcap ha hsz hr => exact .list sz [] ad cap (fun _ _ => undef) (Nat.zero_le _) (fun h => absurd rfl h) (fun x hx => by cases hx) (fun i x hx => by simp at hx)
  · exact h
theorem op_sll (hr : Rel Γ B S ρ ⟨tm, own⟩ a w) {t e : TypeId} {ti : TypeInfo} {x : Operand} {lo hi : Option Operand} {lo' hi' : Option Opd} {v : V} {vs : List V} (hx : RelV S w ρ own v (a.eval x)) (hb : Bnds S w ρ own a lo hi lo' hi' vs)
    (h1 : P.underlying t = some (.slice e)) (h2 : P.info? e = some ti) (ho : o.op = .slice t x lo hi none) {base : Nat} {x' : Opd} (h : run dr (prog base (.sll ti.size x' lo' hi') (v :: vs)) own log K) : Did P Γ B o a w tm K := by
  simp only [prog] at h
  replace h := bnds_elim hb h
  obtain ⟨l, m, h, hl, hm⟩ := h
  have same : ∀ ad n cap, a.eval x = .slice ad n cap → n ≤ cap → l = none → m = none → (execOp a.eval o).run P w = .ok (.value (a.eval x)) w := by
    intro ad n cap hu hc e1 e2
    subst e1 e2
    have := run_sll (P := P) (w := w) h1 h2 ho hu hl hm (by simp) (by simp) (by simpa using hc)
    rw [this, hu]
    simp
    intro _
    cases ad with
    | none => rfl
    | some ad => simp [Addr.add]
  split at h
  · rename_i k off len
    replace h := rd_elim h
    obtain ⟨b, hbk, h⟩ := h
    split at h
    · rename_i sz' ts mm
      replace h := natP_elim h
      obtain ⟨hz, h⟩ := h
      rw [Nat.beq_eq] at hz; subst hz
      have hs := sl_of hx hbk
      obtain ⟨ad, cap, hu, hc, hlen, hle, hq1, hlast, hq2⟩ := sl_sub hs
      clear hq1 hq2
      have hs' := hs
      rw [hu] at hs'
      split at h
      · exact did_val h hr hx (same _ _ _ hu hc rfl rfl)
      · rename_i hh
        replace h := req_elim h
        obtain ⟨⟨q1, q2⟩, h⟩ := h
        have := run_sll (P := P) (w := w) h1 h2 ho hu hl hm (by simp) (by simpa using q1) (by simp; omega)
        refine did_val h hr (.sl k _ _ _ hbk _ ?_) this
        exact slok_cut (l := 0) (n := hh.toNat) hs' (by omega) (by omega) (fun e => by cases e) (fun q e => by cases e; rfl)
      · rename_i ll
        split at h
        · replace h := req_elim h
          obtain ⟨⟨q1, q2⟩, h⟩ := h
          have := run_sll (P := P) (w := w) h1 h2 ho hu hl hm (by simpa using q1) (by simp; omega) (by simp; omega)
          refine did_val h hr (.sl k _ _ _ hbk _ ?_) this
          exact slok_cut hs' (by simp; omega) (by simp) (fun e => ⟨rfl, by simp⟩) (fun q e => by cases e)
        · rename_i nn
          replace h := req_elim h
          obtain ⟨⟨q1, q2⟩, h⟩ := h
          have hln : lenL ts off (some nn) = nn := by rw [lenL_eq]
          have := run_sll (P := P) (w := w) h1 h2 ho hu hl hm (by simpa using q1) (by simp; omega) (by simp; omega)
          refine did_val h hr (.sl k _ _ _ hbk _ ?_) this
          refine slok_cut hs' (by simp; omega) (by simp) (fun e => by cases e) (fun q e => by cases e; show nn - ll.toNat = _; simp; omega)
      · rename_i ll hh
        replace h := req_elim h
        obtain ⟨⟨q1, q2, q3⟩, h⟩ := h
        have := run_sll (P := P) (w := w) h1 h2 ho hu hl hm (by simpa using q1) (by simpa using q2) (by simp; omega)
        refine did_val h hr (.sl k _ _ _ hbk _ ?_) this
        exact slok_cut hs' (by simp; omega) (by simp; omega) (fun e => by cases e) (fun q e => by cases e; simp; omega)
    · exact h.elim
  · have hu := nils_of hx.t_of
    split at h
    · exact did_val h hr hx (same _ _ _ hu (Nat.le_refl _) rfl rfl)
    · replace h := req_elim h
      obtain ⟨rfl, h⟩ := h
      have r := run_sll (P := P) (w := w) h1 h2 ho hu hl hm (by simp) (by simp) (by simp)
      exact did_val h hr hx (by rw [r, hu]; simp)
    · replace h := req_elim h
      obtain ⟨rfl, h⟩ := h
      have r := run_sll (P := P) (w := w) h1 h2 ho hu hl hm (by simp) (by simp) (by simp)
      exact did_val h hr hx (by rw [r, hu]; simp)
    · replace h := req_elim h
      obtain ⟨⟨rfl, rfl⟩, h⟩ := h
      have r := run_sll (P := P) (w := w) h1 h2 ho hu hl hm (by simp) (by simp) (by simp)
      exact did_val h hr hx (by rw [r, hu]; simp)
  · replace h := listFP_elim hr hx h
    obtain ⟨sz, xs, log', h, hT⟩ := h
    obtain ⟨ad, cap, hu, hc⟩ : ∃ ad cap, a.eval x = .slice ad xs.length cap ∧ xs.length ≤ cap := by
      generalize a.eval x = u at hT
      cases hT with
      | list _ _ ad cap u hcap => exact ⟨ad, cap, rfl, hcap⟩
    rw [hu] at hT
    split at h
    · exact did_val h hr hx (same _ _ _ hu hc rfl rfl)
    · rename_i hh
      replace h := req_elim h
      obtain ⟨⟨q1, q2, q3⟩, h⟩ := h
      have r := run_sll (P := P) (w := w) h1 h2 ho hu hl hm (by simp) (by simpa using q1) (by simp; omega)
      refine did_val h hr (.t _ _ ?_) r
      have := list_sub (relist hT q3) (l := 0) (h := hh.toNat) (by omega) (by omega)
      simpa using this
    · rename_i ll
      replace h := req_elim h
      obtain ⟨⟨q1, q2, q3⟩, h⟩ := h
      have r := run_sll (P := P) (w := w) h1 h2 ho hu hl hm (by simpa using q1) (by simp; omega) (by simp; omega)
      refine did_val h hr (.t _ _ ?_) r
      have := list_sub (relist hT q3) (l := ll.toNat) (h := xs.length) (by omega) (by omega)
      rw [List.take_of_length_le (by simp)] at this
      simpa using this
    · rename_i ll hh
      replace h := req_elim h
      obtain ⟨⟨q1, q2, q3, q4⟩, h⟩ := h
      have r := run_sll (P := P) (w := w) h1 h2 ho hu hl hm (by simpa using q1) (by simpa using q2) (by simp; omega)
      refine did_val h hr (.t _ _ ?_) r
      exact list_sub (relist hT q4) (by omega) (by omega)
end
end Go.Nx
end
section
set_option linter.unusedVariables false
set_option linter.unusedSimpArgs false
namespace Go.Nx
open Go.RowKit

section
variable {P : Program} {Γ : Env} {B : Base} {S : Cells} {ρ : Infos} {tm : List V} {own : Own} {a : Act} {w : World}
variable {o : Oper} {K : V → Own → Log → Prop} {log : Log} {dr : Bool}

theorem op_slp (hr : Rel Γ B S ρ ⟨tm, own⟩ a w) {t e : TypeId} {n : Nat} {ti : TypeInfo} {x : Operand} {lo hi : Option Operand} {lo' hi' : Option Opd} {v : V} {vs : List V} (hx : RelV S w ρ own v (a.eval x)) (hb : Bnds S w ρ own a lo hi lo' hi' vs)
    (h1 : P.underlying t = some (.array n e)) (h2 : P.info? e = some ti) (ho : o.op = .slice t x lo hi none) {base : Nat} {x' : Opd} (h : run dr (prog base (.slp ti.size n x' lo' hi') (v :: vs)) own log K) : Did P Γ B o a w tm K := by
  simp only [prog] at h
  replace h := bnds_elim hb h
  obtain ⟨l, m, h, hl, hm⟩ := h
  split at h
  · rename_i k
    have e1 := ptr_of hx
    replace h := rd_elim h
    obtain ⟨b, hbk, h⟩ := h
    split at h
    · rename_i sz' ts
      replace h := natP_elim h
      obtain ⟨hz, h⟩ := h
      rw [Nat.beq_eq] at hz; subst hz
      replace h := req_elim h
      obtain ⟨hn, h⟩ := h
      have run : 0 ≤ l.getD 0 → l.getD 0 ≤ m.getD n → m.getD n ≤ n →
          (execOp a.eval o).run P w = .ok (.value (.slice (some (if n = (l.getD 0).toNat then ⟨(ρ k).blk, 0, none⟩ else (⟨(ρ k).blk, 0, none⟩ : Addr).add ((l.getD 0).toNat * ti.size))) ((m.getD n).toNat - (l.getD 0).toNat) (n - (l.getD 0).toNat))) w := fun g0 g1 g2 => by
        have hb := bounds_run2 (a := a) (P := P) (w := w) false (len := n) (cap := n) hl hm g0 g1 g2
        simp [execOp, ho, e1, Instr.sliceAt, underlying, h1, Instr.sureAddr, hb, sizeOf, typeInfo, h2]
      have ok : ∀ (l m : Nat), l ≤ m → m ≤ n → SlOk (ρ k).rv (.lst ti.size ts 0) l (some (m - l)) (.slice (some (if n = l then ⟨(ρ k).blk, 0, none⟩ else (⟨(ρ k).blk, 0, none⟩ : Addr).add (l * ti.size))) (m - l) (n - l)) := fun l m q1 q2 => by
        obtain ⟨h0, A, C, g1, g2, g3⟩ := hr.mem.blk k _ hbk
        refine ⟨_, _, _, rfl, by omega, by omega, (fun e => by cases e), (fun q e => by cases e; omega), A, C, g1, (fun e => by cases e), by omega, fun hc => ?_⟩
        rcases g3 with g3 | ⟨g3, _⟩
        · omega
        · refine ⟨_, _, g3, ?_⟩
          rw [if_neg (by omega), add_addr]
      split at h
      · have := run (by simp) (by simp) (by simp)
        refine did_val h hr (.sl k _ _ _ hbk _ ?_) this
        exact ok 0 n (Nat.zero_le _) (Nat.le_refl _)
      · rename_i hh
        replace h := req_elim h
        obtain ⟨⟨q1, q2⟩, h⟩ := h
        have := run (by simp) (by simpa using q1) (by simpa using q2)
        refine did_val h hr (.sl k _ _ _ hbk _ ?_) this
        exact ok 0 hh.toNat (Nat.zero_le _) (by omega)
      · rename_i ll
        replace h := req_elim h
        obtain ⟨⟨q1, q2⟩, h⟩ := h
        have := run (by simpa using q1) (by simpa using q2) (by simp)
        refine did_val h hr (.sl k _ _ _ hbk _ ?_) this
        exact ok ll.toNat n (by omega) (Nat.le_refl _)
      · rename_i ll hh
        replace h := req_elim h
        obtain ⟨⟨q1, q2, q3⟩, h⟩ := h
        have := run (by simpa using q1) (by simpa using q2) (by simpa using q3)
        refine did_val h hr (.sl k _ _ _ hbk _ ?_) this
        have e2 : (hh - ll).toNat = hh.toNat - ll.toNat := by omega
        rw [e2]
        exact ok ll.toNat hh.toNat (by omega) (by omega)
    · exact h.elim
  · exact h.elim

theorem op_clip (hr : Rel Γ B S ρ ⟨tm, own⟩ a w) {t e : TypeId} {ti : TypeInfo} {x hi mx : Operand} {v vh vm : V} (hx : RelV S w ρ own v (a.eval x)) (hh : RelV S w ρ own vh (a.eval hi)) (hm : RelV S w ρ own vm (a.eval mx))
    (h1 : P.underlying t = some (.slice e)) (h2 : P.info? e = some ti) (ho : o.op = .slice t x none (some hi) (some mx)) {base : Nat} {x' h' m' : Opd} (h : run dr (prog base (.clip ti.size x' h' m') [v, vh, vm]) own log K) : Did P Γ B o a w tm K := by
  simp only [prog] at h
  replace h := intP_elim h
  obtain ⟨k1, z1, rfl, h⟩ := h
  replace h := intP_elim h
  obtain ⟨k2, z2, rfl, h⟩ := h
  have e1 := RelT.int_of hh.t_of
  have e2 := RelT.int_of hm.t_of
  replace h := listFP_elim hr hx h
  obtain ⟨sz, xs, log', h, hT⟩ := h
  replace h := req_elim h
  obtain ⟨⟨rfl, q2, q3, q4⟩, h⟩ := h
  obtain ⟨ad, cap, hu, hc⟩ : ∃ ad cap, a.eval x = .slice ad xs.length cap ∧ xs.length ≤ cap := by
    generalize a.eval x = u at hT
    cases hT with
    | list _ _ ad cap u hcap => exact ⟨ad, cap, rfl, hcap⟩
  rw [hu] at hT
  have hlen : (xs.take z1.toNat).length = z1.toNat := by simp; omega
  have hT2 := list_sub (relist hT q4) (l := 0) (h := z1.toNat) (by omega) (by omega)
  simp only [List.drop_zero, Nat.sub_zero, Nat.zero_mul] at hT2
  have hT3 : RelT S w (.list ti.size (xs.take z1.toNat)) (.slice ad (xs.take z1.toNat).length (xs.take z1.toNat).length) := by
    have e3 : (if cap = 0 then ad else ad.map (·.add 0)) = ad := by
      split
      · rfl
      · cases ad <;> simp [Addr.add]
    rw [e3] at hT2
    obtain ⟨_, g1, g2, u, g3, g4⟩ := hT2.list_of
    exact .list _ _ _ _ u (Nat.le_refl _) g3 g2 g4
  refine did_val h hr (.cl _ _ _ hT3) ?_
  rw [hlen]
  have g3 : z1 ≤ (cap : Int) := by omega
  simp [execOp, ho, hu, e1, e2, Instr.sliceAt, underlying, h1, Instr.slice, Instr.sliceBounds, Instr.sliceBound, asIntOf, q2, g3, sizeOf, typeInfo, h2]
  rw [if_pos (by omega)]
  have e3 : Option.map (fun x => x.add 0) ad = ad := by cases ad <;> simp [Addr.add]
  rw [e3]
  split <;> rfl

theorem ixc_elim {k of sz : Nat} {z : Int} : ∀ {n : Nat}, run dr (ixcP k of sz z n) own log K → ∃ m : Nat, m < n ∧ z = m ∧ K (.ptr k (of + m * sz)) own log
  | 0, h => h.elim
  | n + 1, h => by
    rcases br_elim h with ⟨e, h⟩ | ⟨e, h⟩
    · rw [eqI_def] at e
      exact ⟨n, by omega, by simpa using e, h⟩
    · obtain ⟨m, h1, h2, h3⟩ := ixc_elim h
      exact ⟨m, by omega, h2, h3⟩
theorem op_ixa (hr : Rel Γ B S ρ ⟨tm, own⟩ a w) {x y : Operand} {t e : TypeId} {len : Nat} {i : TypeInfo} {v vi : V} (hx : RelV S w ρ own v (a.eval x)) (hy : RelV S w ρ own vi (a.eval y))
    (h1 : P.underlying t = some (.array len e)) (h2 : P.info? e = some i) (ho : o.op = .indexAddr t x y) {base : Nat} {x' y' : Opd} (h : run dr (prog base (.ixa len i.size x' y') [v, vi]) own log K) : Did P Γ B o a w tm K := by
  simp only [prog] at h
  replace h := intP_elim h
  obtain ⟨ki, z, rfl, h⟩ := h
  have e2 := RelT.int_of hy.t_of
  have run : ∀ ad : Addr, a.eval x = .pointer (some ad) → 0 ≤ z → z < len → (execOp a.eval o).run P w = .ok (.value (.pointer (some (ad.add (z.toNat * i.size))))) w := by
    intro ad e p1 p2
    simp [execOp, ho, e, e2, Instr.indexAt, asIntOf, underlying, h1, Instr.sureAddr, run_sizeOf h2, p1, p2]
  split at h
  · rename_i k of
    have e1 := ptr_of hx
    replace h := rd_elim h
    obtain ⟨b, hb, h⟩ := h
    split at h
    · replace h := natP_elim h
      obtain ⟨hz, h⟩ := h
      rw [Nat.beq_eq] at hz; subst hz
      replace h := req_elim h
      obtain ⟨⟨q1, q2⟩, h⟩ := h
      have r := run _ e1 q1 q2
      rw [add_addr] at r
      refine did_val h hr (.eptr k _ _ _ hb _ fun sz ts m e => ?_) r
      cases e; simp
    · replace h := ixc_elim h
      obtain ⟨m, q1, q2, h⟩ := h
      have r := run _ e1 (by omega) (by omega)
      rw [add_addr] at r
      rw [show z.toNat = m by omega] at r
      exact did_val h hr (.ptr k _ _ hb) r
    · exact h.elim
  · rename_i cs
    split at h
    · rename_i hsz
      obtain ⟨b, of, e1⟩ := ref_of hx.t_of
      replace h := nth_elim h
      obtain ⟨q0, x0, q1, h⟩ := h
      replace h := req_elim h
      obtain ⟨q2, h⟩ := h
      have r := run _ e1 q0 q2
      rw [add_addr, hsz, Nat.mul_one] at r
      have hT := hx.t_of
      rw [e1] at hT
      have hT2 := ref_drop (n := z.toNat) hT
      refine did_val h hr (.t _ _ ?_) r
      cases hT2 with
      | ref _ _ _ u ha hh =>
        have hlt : z.toNat < cs.length := by
          rcases Nat.lt_or_ge z.toNat cs.length with h | h
          · exact h
          · rw [List.getElem?_eq_none h] at q1; cases q1
        refine .ref _ _ _ u (fun j hj => ha j (by simp at hj ⊢; omega)) fun j c hc => ?_
        cases j with
        | succ j => simp at hc
        | zero => simp at hc; subst hc; exact hh 0 _ (by rw [List.getElem?_drop]; exact q1)
    · exact h.elim
  · exact h.elim
theorem op_ixk (hr : Rel Γ B S ρ ⟨tm, own⟩ a w) {x y : Operand} {t e : TypeId} {len : Nat} {i : TypeInfo} {v : V} {ki : IntKind} {z : Int} (hx : RelV S w ρ own v (a.eval x)) (hy : a.eval y = .int ki z) (hz0 : 0 ≤ z)
    (h1 : P.underlying t = some (.array len e)) (h2 : P.info? e = some i) (ho : o.op = .indexAddr t x y) {base : Nat} {x' : Opd} (h : run dr (prog base (.ixk len i.size x' z.toNat) [v]) own log K) : Did P Γ B o a w tm K := by
  simp only [prog] at h
  have run : ∀ ad : Addr, a.eval x = .pointer (some ad) → z < len → (execOp a.eval o).run P w = .ok (.value (.pointer (some (ad.add (z.toNat * i.size))))) w := by
    intro ad e p2
    simp [execOp, ho, e, hy, Instr.indexAt, asIntOf, underlying, h1, Instr.sureAddr, run_sizeOf h2, hz0, p2]
  split at h
  · rename_i k of
    have e1 := ptr_of hx
    replace h := rd_elim h
    obtain ⟨b, hb, h⟩ := h
    split at h
    · replace h := natP_elim h
      obtain ⟨hz, h⟩ := h
      rw [Nat.beq_eq] at hz; subst hz
      replace h := req_elim h
      obtain ⟨q1, h⟩ := h
      have r := run _ e1 (by omega)
      rw [add_addr] at r
      refine did_val h hr (.eptr k _ _ _ hb _ fun sz ts m e => ?_) r
      cases e; simp
    · replace h := req_elim h
      obtain ⟨q1, h⟩ := h
      have r := run _ e1 (by omega)
      rw [add_addr] at r
      exact did_val h hr (.ptr k _ _ hb) r
    · exact h.elim
  · rename_i cs
    replace h := req_elim h
    obtain ⟨q1, h⟩ := h
    obtain ⟨b, of, e1⟩ := ref_of hx.t_of
    have r := run _ e1 (by omega)
    rw [add_addr] at r
    have hT := hx.t_of
    rw [e1] at hT
    exact did_val h hr (.t _ _ (ref_drop hT)) r
  · exact h.elim
theorem op_ixs (hr : Rel Γ B S ρ ⟨tm, own⟩ a w) {x y : Operand} {t e : TypeId} {i : TypeInfo} {v vi : V} (hx : RelV S w ρ own v (a.eval x)) (hy : RelV S w ρ own vi (a.eval y))
    (h1 : P.underlying t = some (.slice e)) (h2 : P.info? e = some i) (ho : o.op = .indexAddr t x y) {base : Nat} {x' y' : Opd} (h : run dr (prog base (.ixs i.size x' y') [v, vi]) own log K) : Did P Γ B o a w tm K := by
  simp only [prog] at h
  replace h := intP_elim h
  obtain ⟨ki, z, rfl, h⟩ := h
  have e2 := RelT.int_of hy.t_of
  have rn : ∀ ad n cap, a.eval x = .slice (some ad) n cap → 0 ≤ z → z < (n : Int) → (execOp a.eval o).run P w = .ok (.value (.pointer (some (ad.add (z.toNat * i.size))))) w := by
    intro ad n cap e p1 p2
    simp [execOp, ho, e, e2, Instr.indexAt, asIntOf, underlying, h1, run_sizeOf h2, p1, p2]
  -- of a list that is settled
  have pure_ : ∀ (sz : Nat) (xs : List T) log', RelT S w (.list sz xs) (a.eval x) → run dr (.nth xs z fun y => natP (Nat.beq sz i.size) (cellsTP y fun l => .ret (.t (.ref l)))) own log' K → Did P Γ B o a w tm K := by
    intro sz xs log' hT h
    replace h := nth_elim h
    obtain ⟨q0, y0, q4, h⟩ := h
    replace h := natP_elim h
    obtain ⟨hz, h⟩ := h
    rw [Nat.beq_eq] at hz; subst hz
    replace h := cellsTP_elim h
    obtain ⟨_, _, h⟩ := h
    generalize hux : a.eval x = ux at hT
    cases hT with
    | list _ _ ad cap f hcap ha hsz hrr =>
      have hlt : z.toNat < xs.length := by
        rcases Nat.lt_or_ge z.toNat xs.length with h | h
        · exact h
        · rw [List.getElem?_eq_none h] at q4; cases q4
      obtain ⟨b, o', rfl, hcell⟩ := ha (by intro e; subst e; simp at hlt)
      have r := rn _ _ _ hux q0 (by omega)
      rw [add_addr] at r
      refine did_val h hr (.t _ _ (.ref _ _ _ (fun j => f z.toNat j) (fun j hj => ?_) fun j c hc => hrr _ _ q4 _ _ hc)) r
      have hj' : j < i.size := by rw [← (hsz y0 (List.mem_of_getElem? q4)).1]; exact hj
      exact hcell _ j hlt hj'
  split at h
  · rename_i k off len
    replace h := rd_elim h
    obtain ⟨b, hb, h⟩ := h
    split at h
    · rename_i sz' ts m
      have hs := sl_of hx hb
      replace h := natP_elim h
      obtain ⟨hz, h⟩ := h
      split at h
      · rw [Nat.beq_eq] at hz; subst hz
        replace h := req_elim h
        obtain ⟨⟨q1, q2⟩, h⟩ := h
        obtain ⟨ad, c, g1, g2, g3, g4, _, _, A, C, g5, g6, g7, g8⟩ := sl_sub hs
        obtain ⟨b', o', p1, p2⟩ := g8 (by omega)
        have hne : ts ≠ [] := fun hn => by
          have : ts.length = 0 := by rw [hn]; rfl
          omega
        obtain ⟨C', arr, e', k1, _⟩ := lst0_cells hr hb hne
        rw [k1] at g5
        simp only [Value.slice.injEq] at g5
        obtain ⟨rfl, _, _⟩ := g5
        simp only [Option.some.injEq, Addr.mk.injEq] at p1
        obtain ⟨rfl, rfl, _⟩ := p1
        subst p2
        have r := rn _ _ _ g1 q1 (by omega)
        rw [add_addr] at r
        refine did_val h hr (.eptr k _ _ _ hb _ fun sz ts m e => ?_) r
        cases e
        simp [Nat.add_mul]
      · exact pure_ _ _ _ (lstF_sub hr hb hs) (by rw [hz]; rw [Nat.beq_eq] at hz; exact h)
    · exact h.elim
  · replace h := listFP_elim hr hx h
    obtain ⟨sz, xs, log', h, hT⟩ := h
    exact pure_ sz xs log' hT h
theorem op_ixstr (hr : Rel Γ B S ρ ⟨tm, own⟩ a w) {x y : Operand} {t : TypeId} {v vi : V} (hx : RelV S w ρ own v (a.eval x)) (hy : RelV S w ρ own vi (a.eval y))
    (h1 : P.underlying t = some .string) (ho : o.op = .index t x y) {base : Nat} {x' y' : Opd} (h : run dr (prog base (.ixstr x' y') [v, vi]) own log K) : Did P Γ B o a w tm K := by
  simp only [prog] at h
  replace h := intP_elim h
  obtain ⟨ki, z, rfl, h⟩ := h
  have e2 := RelT.int_of hy.t_of
  split at h
  · rename_i s
    have e1 := RelT.str_of hx.t_of
    replace h := req_elim h
    obtain ⟨⟨q1, q2⟩, h⟩ := h
    refine did_val h hr (u := .int .u8 _) (.t _ _ (.int _ _)) ?_
    have hlt : z.toNat < s.data.size := by
      have : s.data.size = s.size := rfl
      omega
    have e3 : s[z.toNat]? = some (s.data.toList.getD z.toNat 0) := by
      have : s.data[z.toNat]? = some (s.data.toList.getD z.toNat 0) := by
        simp only [List.getD, Array.getElem?_toList]
        rw [Array.getElem?_eq_getElem hlt]; rfl
      exact this
    simp [execOp, ho, e1, e2, Instr.index, asIntOf, underlying, h1, q1, e3]
  · exact h.elim
theorem op_ixv (hr : Rel Γ B S ρ ⟨tm, own⟩ a w) {x y : Operand} {t e : TypeId} {n : Nat} {ti : TypeInfo} {d : TypeDesc} {v vi : V} (hx : RelV S w ρ own v (a.eval x)) (hy : RelV S w ρ own vi (a.eval y))
    (h1 : P.underlying t = some (.array n e)) (h2 : P.info? e = some ti) (h3 : P.underlying e = some d) (h4 : ti.size = 1) (h5 : aggD d = false) (ho : o.op = .index t x y) {base : Nat} {x' y' : Opd}
    (h : run dr (prog base (.ixv n x' y') [v, vi]) own log K) : Did P Γ B o a w tm K := by
  simp only [prog] at h
  replace h := intP_elim h
  obtain ⟨ki, z, rfl, h⟩ := h
  have e2 := RelT.int_of hy.t_of
  split at h
  · rename_i l
    replace h := nth_elim h
    obtain ⟨q3, y0, q4, h⟩ := h
    replace h := req_elim h
    obtain ⟨q6, h⟩ := h
    obtain ⟨arr, e1, c1, c2⟩ := RelT.agg_of hx.t_of
    obtain ⟨hlt, e4⟩ := arr_get c1 q4
    refine did_val h hr (.t _ _ (c2 _ _ _ q4 e4)) ?_
    have hag : (isAgg e).run P w = .ok false w := by
      cases d <;> simp [aggD] at h5 <;> simp [isAgg, underlying, h3]
    simp [execOp, ho, e1, e2, Instr.index, asIntOf, underlying, h1, q3, q6, part, hag, sizeOf, typeInfo, h2, h4, e4]
  · exact h.elim
end
end Go.Nx
end
