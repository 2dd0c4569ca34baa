/-
  THE STEPS ON LISTS, ARRAYS, TEXTS.
-/
import Derived.Test.YtpmpkcjcjccboaaDoorXi
set_option linter.unusedVariables false
set_option linter.unusedSimpArgs false
namespace Go.Nx
open Go.RowKit

section
variable {P : Program} {Γ : Env} {B : Base} {S : Cells} {ρ : Infos} {tm : List V} {own : Own} {a : Act} {w : World}
variable {o : Oper} {K : V → Own → Log → Prop} {log : Log} {dr : Bool}

/-- a list that can be read -/
structure Rdl (S : Cells) (w : World) (sz : Nat) (xs : List T) (v : Value) : Prop where
  ex : ∃ ad cap, v = .slice ad xs.length cap ∧ xs.length ≤ cap ∧ ∃ u : Nat → Nat → Value, (xs ≠ [] → ∃ b o, ad = some ⟨b, o, none⟩ ∧ ∀ i j, i < xs.length → j < sz → w.cell? ⟨b, o + i * sz + j, none⟩ = some (u i j)) ∧
    ∀ (i : Nat) (x : T), xs[i]? = some x → ∀ (j : Nat) (c : T), x.cells[j]? = some c → RelT S w c (u i j)
  sz : ∀ x ∈ xs, Flat sz x
theorem rdl_of_t {sz : Nat} {xs : List T} {v : Value} (h : RelT S w (.list sz xs) v) : Rdl S w sz xs v := by
  cases h with
  | list _ _ ad cap u hcap ha hsz hr =>
    refine ⟨⟨ad, cap, rfl, hcap, u, fun hne => ?_, hr⟩, hsz⟩
    obtain ⟨b, o, e, h⟩ := ha hne
    exact ⟨b, o, e, fun i j hi hj => (h i j hi hj).2⟩
theorem rdl_empty {sz : Nat} {a : Option Addr} {c : Nat} : Rdl S w sz [] (.slice a 0 c) :=
  ⟨⟨a, c, rfl, Nat.zero_le _, fun _ _ => undef, fun h => (h rfl).elim, fun i x h => by simp at h⟩, fun x h => by simp at h⟩
theorem lst0_sub (hr : Rel Γ B S ρ ⟨tm, own⟩ a w) {k sz off : Nat} {len : Option Nat} {ts : List T} {v : Value} (hl : look k own = some (.lst sz ts 0)) (hs : SlOk (ρ k).rv (.lst sz ts 0) off len v) : Rdl S w sz (subL ts off len) v := by
  obtain ⟨ad, c, e, hc, _, hle, hget, _, A, C, h4, h5, h6, h7⟩ := sl_sub hs
  have hB := hr.mem.blk k _ hl
  have hsz : ∀ x ∈ subL ts off len, Flat sz x := fun x hx => by
    obtain ⟨i, hi⟩ := List.mem_iff_getElem?.1 hx
    have hlt : i < (subL ts off len).length := by
      rcases Nat.lt_or_ge i (subL ts off len).length with h | h
      · exact h
      · rw [List.getElem?_eq_none h] at hi; cases hi
    rw [hget i hlt] at hi
    exact hB.1 x (List.mem_of_getElem? hi)
  by_cases hne : ts = []
  · have h0 : ts.length = 0 := by rw [hne]; rfl
    have : subL ts off len = [] := List.eq_nil_of_length_eq_zero (by omega)
    rw [this] at e hc ⊢
    subst e; exact rdl_empty
  · obtain ⟨C', arr, e', g1, g2, g3, g4, g5, g6⟩ := lst0_cells hr hl hne
    rw [g1] at h4
    simp only [Value.slice.injEq] at h4
    obtain ⟨rfl, _, rfl⟩ := h4
    refine ⟨⟨ad, c, e, hc, fun i j => (arr[(off + i) * sz + j]?).getD undef, fun hne2 => ?_, fun i x hx j c' hc' => ?_⟩, hsz⟩
    · have hpos : 0 < (subL ts off len).length := List.length_pos_iff.2 hne2
      obtain ⟨b, o, e1, e2⟩ := h7 (by omega)
      simp only [Option.some.injEq, Addr.mk.injEq] at e1
      obtain ⟨rfl, rfl, _⟩ := e1
      refine ⟨_, _, e2, fun i j hi hj => ?_⟩
      rw [cell_row g3]
      have hb : (off + i + 1) * sz ≤ C' * sz := Nat.mul_le_mul_right _ (by omega)
      rw [Nat.add_mul] at hb
      have hlt : (off + i) * sz + j < arr.size := by omega
      have e3 : 0 + off * sz + i * sz + j = (off + i) * sz + j := by rw [Nat.add_mul]; omega
      rw [e3]; simp [hlt]
    · have hlt : i < (subL ts off len).length := by
        rcases Nat.lt_or_ge i (subL ts off len).length with h | h
        · exact h
        · rw [List.getElem?_eq_none h] at hx; cases hx
      rw [hget i hlt] at hx
      obtain ⟨v', q1, q2⟩ := g6 (off + i) x j c' hx hc'
      simpa [q1] using q2
theorem lstF_sub (hr : Rel Γ B S ρ ⟨tm, own⟩ a w) {k sz off m : Nat} {len : Option Nat} {ts : List T} {v : Value} (hl : look k own = some (.lst sz ts (m + 1))) (hs : SlOk (ρ k).rv (.lst sz ts (m + 1)) off len v) : RelT S w (.list sz (subL ts off len)) v := by
  have hB := hr.mem.blk k _ hl
  match m, hB with
  | 0, hB => exact sl_list hB.1 hs
  | m + 1, hB => exact sl_list hB hs
theorem sl_of {k off : Nat} {len : Option Nat} {b : Blk} {u : Value} (h : RelV S w ρ own (.sl k off len) u) (hb : look k own = some b) : SlOk (ρ k).rv b off len u := by
  cases h with
  | sl _ _ _ b' hb' v hv => rw [hb] at hb'; cases hb'; exact hv
theorem cl_of {sz : Nat} {xs : List T} {u : Value} (h : RelV S w ρ own (.cl sz xs) u) : RelT S w (.list sz xs) u ∧ ∃ ad, u = .slice ad xs.length xs.length := by
  cases h with
  | cl _ _ ad h => exact ⟨h, ad, rfl⟩
theorem ce_of {u : Value} (h : RelV S w ρ own .ce u) : ∃ ad, u = .slice (some ad) 0 0 := by
  cases h with
  | ce ad => exact ⟨ad, rfl⟩
theorem nils_of {u : Value} (h : RelT S w .nils u) : u = .slice none 0 0 := by cases h; rfl

theorem listP_elim (hr : Rel Γ B S ρ ⟨tm, own⟩ a w) {v : V} {u : Value} (hv : RelV S w ρ own v u) {f : Nat → List T → Pg} (h : run dr (listP v f) own log K) :
    ∃ sz xs log', run dr (f sz xs) own log' K ∧ Rdl S w sz xs u := by
  unfold listP at h
  split at h
  · split at h
    · exact ⟨_, _, _, h, rdl_of_t hv.t_of⟩
    · have e := nils_of hv.t_of; subst e; exact ⟨_, _, _, h, rdl_empty⟩
    · exact h.elim
  · exact ⟨_, _, _, h, rdl_of_t (cl_of hv).1⟩
  · obtain ⟨ad, e⟩ := ce_of hv; subst e; exact ⟨_, _, _, h, rdl_empty⟩
  · replace h := rd_elim h
    obtain ⟨b, hb, h⟩ := h
    split at h
    · rename_i m
      have hs := sl_of hv hb
      match m, hb, hs with
      | 0, hb, hs => exact ⟨_, _, _, h, lst0_sub hr hb hs⟩
      | m + 1, hb, hs => exact ⟨_, _, _, h, rdl_of_t (lstF_sub hr hb hs)⟩
    · exact h.elim
  · exact h.elim
theorem listFP_elim (hr : Rel Γ B S ρ ⟨tm, own⟩ a w) {v : V} {u : Value} (hv : RelV S w ρ own v u) {f : Nat → List T → Pg} (h : run dr (listFP v f) own log K) :
    ∃ sz xs log', run dr (f sz xs) own log' K ∧ (RelT S w (.list sz xs) u) := by
  have nl : RelT S w (.list 0 []) (.slice none 0 0) := .list 0 [] none 0 (fun _ _ => undef) (Nat.le_refl _) (fun h => (h rfl).elim) (fun x h => by simp at h) fun i x h => by simp at h
  unfold listFP at h
  split at h
  · split at h
    · exact ⟨_, _, _, h, hv.t_of⟩
    · have e := nils_of hv.t_of; subst e; exact ⟨_, _, _, h, nl⟩
    · exact h.elim
  · exact ⟨_, _, _, h, (cl_of hv).1⟩
  · replace h := rd_elim h
    obtain ⟨b, hb, h⟩ := h
    split at h
    · split at h
      · exact h.elim
      · exact ⟨_, _, _, h, lstF_sub hr hb (sl_of hv hb)⟩
    · exact h.elim
  · exact h.elim

theorem op_len (hr : Rel Γ B S ρ ⟨tm, own⟩ a w) {x : Operand} {c : Call} {t e : TypeId} {v : V} (hx : RelV S w ρ own v (a.eval x)) (hc : c.callee = .builtin .len) (ha : c.args = #[x]) (ht : c.argTypes = #[t])
    (hu : P.underlying t = some (.slice e)) (ho : o.op = .call c) {base : Nat} {x' : Opd} (h : run dr (prog base (.len x') [v]) own log K) : Did P Γ B o a w tm K := by
  simp only [prog] at h
  have fin : ∀ (n : Nat) log', (∃ ad cap, a.eval x = .slice ad n cap) → K (.t (.int .i64 n)) own log' → Did P Γ B o a w tm K := by
    intro n log' ⟨ad, cap, e1⟩ hK
    exact did_val hK hr (u := .int .i64 _) (.t _ _ (.int _ _)) (by simp [execOp, ho, resolve, hc, ha, ht, invoke, builtin, Builtin.len_, underlying, hu, e1, goInt])
  split at h
  · replace h := rd_elim h
    obtain ⟨b, hb, h⟩ := h
    split at h
    · obtain ⟨ad, c, e1, _, e2, _⟩ := sl_sub (sl_of hx hb)
      rw [← e2] at h
      exact fin _ _ ⟨ad, c, e1⟩ h
    · exact h.elim
  · obtain ⟨sz, xs, log', hK, hl⟩ := listP_elim hr hx h
    obtain ⟨ad, cap, e1, _⟩ := hl.ex
    exact fin _ _ ⟨ad, cap, e1⟩ hK
theorem op_lens (hr : Rel Γ B S ρ ⟨tm, own⟩ a w) {x : Operand} {c : Call} {t : TypeId} {v : V} (hx : RelV S w ρ own v (a.eval x)) (hc : c.callee = .builtin .len) (ha : c.args = #[x]) (ht : c.argTypes = #[t])
    (hu : P.underlying t = some .string) (ho : o.op = .call c) {base : Nat} {x' : Opd} (h : run dr (prog base (.lens x') [v]) own log K) : Did P Γ B o a w tm K := by
  simp only [prog] at h
  split at h
  · have e1 := RelT.str_of hx.t_of
    exact did_val h hr (u := .int .i64 _) (.t _ _ (.int _ _)) (by simp [execOp, ho, resolve, hc, ha, ht, invoke, builtin, Builtin.len_, underlying, hu, e1, goInt])
  · exact h.elim
theorem op_mx (hr : Rel Γ B S ρ ⟨tm, own⟩ a w) {x y : Operand} {c : Call} {vx vy : V} (hx : RelV S w ρ own vx (a.eval x)) (hy : RelV S w ρ own vy (a.eval y)) (hc : c.callee = .builtin .max) (ha : c.args = #[x, y])
    (ho : o.op = .call c) {base : Nat} {x' y' : Opd} (h : run dr (prog base (.mx x' y') [vx, vy]) own log K) : Did P Γ B o a w tm K := by
  simp only [prog] at h
  split at h
  · have e1 := RelT.int_of hx.t_of
    have e2 := RelT.int_of hy.t_of
    exact did_val h hr (u := .int _ _) (.t _ _ (.int _ _)) (by simp [execOp, ho, resolve, hc, ha, invoke, builtin, run_max_int2, e1, e2, maxI_def])
  · exact h.elim
theorem op_mn (hr : Rel Γ B S ρ ⟨tm, own⟩ a w) {x y : Operand} {c : Call} {vx vy : V} (hx : RelV S w ρ own vx (a.eval x)) (hy : RelV S w ρ own vy (a.eval y)) (hc : c.callee = .builtin .min) (ha : c.args = #[x, y])
    (ho : o.op = .call c) {base : Nat} {x' y' : Opd} (h : run dr (prog base (.mn x' y') [vx, vy]) own log K) : Did P Γ B o a w tm K := by
  simp only [prog] at h
  split at h
  · have e1 := RelT.int_of hx.t_of
    have e2 := RelT.int_of hy.t_of
    exact did_val h hr (u := .int _ _) (.t _ _ (.int _ _)) (by simp [execOp, ho, resolve, hc, ha, invoke, builtin, run_min_int2, e1, e2, minI_def])
  · exact h.elim

/-! nil -/
theorem run_isn {op : BinOp} {neg : Bool} {t yt : TypeId} {x : Operand} {c u : Value} {b : Bool} (hop : op = if neg then .neq else .eql) (ho : o.op = .binOp op t x (.const c) yt) (hu : a.eval x = u) (h1 : u ≠ .nilIface) (h2 : ∀ cs, u ≠ .agg cs)
    (h3 : ∀ k n, u ≠ .int k n) (h4 : ∀ s, u ≠ .string s) (h5 : ∀ k n, u ≠ .float k n) (h6 : ∀ k n m, u ≠ .complex k n m) (h : (Op.equal t u c).run P w = .ok b w) :
    (execOp a.eval o).run P w = .ok (.value (.bool (if neg then !b else b))) w := by
  have e2 : a.eval (.const c) = c := rfl
  cases neg
  · simp only [if_false, Bool.false_eq_true] at hop
    subst hop
    simp only [execOp, ho, hu, e2, Sem.run_bind, run_eqGuard_plain .eql t x (.const c) u c h1 h2, Result.andThen_ok]
    cases u <;> first
      | exact absurd rfl (h3 _ _)
      | exact absurd rfl (h4 _)
      | exact absurd rfl (h5 _ _)
      | exact absurd rfl (h6 _ _ _)
      | simp [binOp, h]
  · simp only [if_true] at hop
    subst hop
    simp only [execOp, ho, hu, e2, Sem.run_bind, run_eqGuard_plain .neq t x (.const c) u c h1 h2, Result.andThen_ok]
    cases u <;> first
      | exact absurd rfl (h3 _ _)
      | exact absurd rfl (h4 _)
      | exact absurd rfl (h5 _ _)
      | exact absurd rfl (h6 _ _ _)
      | simp [binOp, h]
theorem eqIn_slice (d : Nat) (t e : TypeId) (ad : Option Addr) (n cap : Nat) (h : P.underlying t = some (.slice e)) : (Op.equalIn (d + 1) t (.slice ad n cap) (.slice none 0 0)).run P w = .ok ad.isNone w := by
  cases ad <;> simp [Op.equalIn, underlying, h]
theorem eqIn_func (d : Nat) (t : TypeId) (p q : Array TypeId) (v : Bool) (u : Value) (h : P.underlying t = some (.func p q v)) (hu : u = .nilFunc ∨ ∃ f p q, u = .func f p q) : (Op.equalIn (d + 1) t u .nilFunc).run P w = .ok (match u with | .nilFunc => true | _ => false) w := by
  rcases hu with rfl | ⟨f, p, q, rfl⟩ <;> simp [Op.equalIn, underlying, h]
theorem eqIn_map (d : Nat) (t k e : TypeId) (r : Option Nat) (h : P.underlying t = some (.map k e)) : (Op.equalIn (d + 1) t (.map r) (.map none)).run P w = .ok r.isNone w := by
  cases r <;> simp [Op.equalIn, underlying, h]
theorem eqIn_ptr (d : Nat) (t e : TypeId) (r : Option Addr) (h : P.underlying t = some (.pointer e)) : (Op.equalIn (d + 1) t (.pointer r) (.pointer none)).run P w = .ok r.isNone w := by
  cases r <;> simp [Op.equalIn, underlying, h]
theorem op_isn (hr : Rel Γ B S ρ ⟨tm, own⟩ a w) {x : Operand} {op : BinOp} {neg : Bool} {t yt : TypeId} {d : TypeDesc} {c : Value} {kd : Nat} {v : V} (hx : RelV S w ρ own v (a.eval x)) (ht : P.underlying t = some d) (hk : nilK d c = some kd)
    (hop : op = if neg then .neq else .eql) (ho : o.op = .binOp op t x (.const c) yt) {base : Nat} {x' : Opd} (h : run dr (prog base (.isn kd neg x') [v]) own log K) : Did P Γ B o a w tm K := by
  -- what is asked, of a slice
  have sl : ∀ ad n cap, kd = 0 → a.eval x = .slice ad n cap → ∀ log', K (.t (.bool (if neg then !ad.isNone else ad.isNone))) own log' → Did P Γ B o a w tm K := by
    intro ad n cap hk0 hu log' hK
    unfold nilK at hk
    split at hk <;> first | (cases hk; done) | skip
    · refine did_val hK hr (u := .bool _) (.t _ _ (.bool _)) (run_isn hop ho hu (by simp) (by simp) (by simp) (by simp) (by simp) (by simp) ?_)
      exact eqIn_slice 9999 _ _ _ _ _ ht
    all_goals (simp at hk; omega)
  have fn : ∀ (b : Bool), kd = 1 → (a.eval x = .nilFunc ∧ b = true ∨ (∃ f p q, a.eval x = .func f p q) ∧ b = false) → ∀ log', K (.t (.bool (if neg then !b else b))) own log' → Did P Γ B o a w tm K := by
    intro b hk0 hu log' hK
    unfold nilK at hk
    split at hk <;> first | (cases hk; done) | skip
    · simp at hk; omega
    · rcases hu with ⟨hu, rfl⟩ | ⟨⟨f, p, q, hu⟩, rfl⟩
      · refine did_val hK hr (u := .bool _) (.t _ _ (.bool _)) (run_isn hop ho hu (by simp) (by simp) (by simp) (by simp) (by simp) (by simp) ?_)
        exact eqIn_func 9999 _ _ _ _ _ ht (.inl rfl)
      · refine did_val hK hr (u := .bool _) (.t _ _ (.bool _)) (run_isn hop ho hu (by simp) (by simp) (by simp) (by simp) (by simp) (by simp) ?_)
        exact eqIn_func 9999 _ _ _ _ _ ht (.inr ⟨_, _, _, rfl⟩)
    all_goals (simp at hk; omega)
  have mp : ∀ r : Option Nat, kd = 2 → a.eval x = .map r → ∀ log', K (.t (.bool (if neg then !r.isNone else r.isNone))) own log' → Did P Γ B o a w tm K := by
    intro r hk0 hu log' hK
    unfold nilK at hk
    split at hk <;> first | (cases hk; done) | skip
    · simp at hk; omega
    · simp at hk; omega
    · refine did_val hK hr (u := .bool _) (.t _ _ (.bool _)) (run_isn hop ho hu (by simp) (by simp) (by simp) (by simp) (by simp) (by simp) ?_)
      exact eqIn_map 9999 _ _ _ _ ht
    · simp at hk; omega
  have pt : ∀ r : Option Addr, kd ≠ 0 → kd ≠ 1 → kd ≠ 2 → a.eval x = .pointer r → ∀ log', K (.t (.bool (if neg then !r.isNone else r.isNone))) own log' → Did P Γ B o a w tm K := by
    intro r hk0 hk1 hk2 hu log' hK
    unfold nilK at hk
    split at hk <;> first | (cases hk; done) | skip
    · simp at hk; omega
    · simp at hk; omega
    · simp at hk; omega
    · refine did_val hK hr (u := .bool _) (.t _ _ (.bool _)) (run_isn hop ho hu (by simp) (by simp) (by simp) (by simp) (by simp) (by simp) ?_)
      exact eqIn_ptr 9999 _ _ _ ht
  have neg1 : (if neg = true then !true else true) = !neg := by cases neg <;> rfl
  have neg0 : (if neg = true then !false else false) = neg := by cases neg <;> rfl
  -- of a list, empty or not
  have ls : ∀ (xs : List T) ad n cap log', kd = 0 → a.eval x = .slice ad n cap → (xs ≠ [] → ad.isNone = false) → run dr (.alt (xs = []) (.ret (.t (.bool neg))) (.ret (.t (.bool (!neg))))) own log' K → Did P Γ B o a w tm K := by
    intro xs ad n cap log' hk0 hu hne h
    obtain ⟨h1, h2⟩ := alt_elim h
    cases e : ad.isNone
    · exact sl ad n cap hk0 hu log' (by rw [e, neg0]; exact h1)
    · have hxs : xs = [] := by
        by_cases hh : xs = []
        · exact hh
        · rw [hne hh] at e; cases e
      exact sl ad n cap hk0 hu log' (by rw [e, neg1]; exact h2 hxs)
  simp only [prog] at h
  split at h
  · split at h
    · exact sl none 0 0 rfl (nils_of hx.t_of) _ (by simpa [neg1, run_ret] using h)
    · have hT := hx.t_of
      generalize hu : a.eval x = u at hT
      cases hT with
      | list _ _ ad cap u' hcap ha hsz hrr =>
        refine ls _ ad _ cap _ rfl hu (fun hne => ?_) h
        obtain ⟨b, o', e, _⟩ := ha hne
        rw [e]; rfl
    · obtain ⟨hT, _⟩ := cl_of hx
      generalize hu : a.eval x = u at hT
      cases hT with
      | list _ xs ad cap u' hcap ha hsz hrr =>
        refine ls _ ad _ cap _ rfl hu (fun hne => ?_) h
        obtain ⟨b, o', e, _⟩ := ha hne
        rw [e]; rfl
    · obtain ⟨ad, e⟩ := ce_of hx
      exact sl (some ad) 0 0 rfl e _ (by simpa [neg0, run_ret] using h)
    · replace h := rd_elim h
      obtain ⟨b, hb, h⟩ := h
      split at h
      · rename_i sz ts m
        obtain ⟨ad, c, e1, hc, _, hle, _, _, A, C, g4, g5, g6, g7⟩ := sl_sub (sl_of hx hb)
        refine ls _ ad _ c _ rfl e1 (fun hne => ?_) h
        have hpos : 0 < (subL ts _ _).length := List.length_pos_iff.2 hne
        obtain ⟨b', o', _, e2⟩ := g7 (by omega)
        rw [e2]; rfl
      · exact h.elim
    · exact h.elim
  · split at h
    · have hT := hx.t_of
      generalize hu : a.eval x = u at hT
      cases hT
      exact fn true rfl (.inl ⟨hu, rfl⟩) _ (by rw [neg1]; exact h)
    · have hT := hx.t_of
      generalize hu : a.eval x = u at hT
      cases hT
      exact fn false rfl (.inr ⟨⟨_, _, _, hu⟩, rfl⟩) _ (by rw [neg0]; exact h)
    · generalize hu : a.eval x = u at hx
      cases hx
      exact fn false rfl (.inr ⟨⟨_, _, _, hu⟩, rfl⟩) _ (by rw [neg0]; exact h)
    · exact h.elim
  · split at h
    · have hT := hx.t_of
      generalize hu : a.eval x = u at hT
      cases hT
      exact mp none rfl hu _ (by simpa [neg1, run_ret] using h)
    · generalize hu : a.eval x = u at hx
      cases hx
      exact mp _ rfl hu _ (by simpa [neg0, run_ret] using h)
    · exact h.elim
  · rename_i q0 q1 q2
    split at h
    · have hT := hx.t_of
      generalize hu : a.eval x = u at hT
      cases hT
      exact pt none q0 q1 q2 hu _ (by simpa [neg1, run_ret] using h)
    · obtain ⟨b, o', e⟩ := ref_of hx.t_of
      exact pt _ q0 q1 q2 e _ (by simpa [neg0, run_ret] using h)
    · exact pt _ q0 q1 q2 (ptr_of hx) _ (by simpa [neg0, run_ret] using h)
    · generalize hu : a.eval x = u at hx
      cases hx
      exact pt _ q0 q1 q2 hu _ (by simpa [neg0, run_ret] using h)
    · exact h.elim
end
end Go.Nx
