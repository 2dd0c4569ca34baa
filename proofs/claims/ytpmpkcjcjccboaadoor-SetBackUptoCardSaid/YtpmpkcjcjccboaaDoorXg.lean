/-
  WHAT IS SETTLED.
-/
import Derived.Test.YtpmpkcjcjccboaaDoorXf
set_option linter.unusedVariables false
set_option linter.unusedSimpArgs false
namespace Go.Nx
open Go.RowKit

theorem subL_eq (ts : List T) (off : Nat) (len : Option Nat) : subL ts off len = match len with
    | none => ts.drop off
    | some n => (ts.drop off).take n := by
  cases len with
  | none => cases off <;> simp [subL]
  | some n => cases off <;> rfl
theorem lenL_eq (ts : List T) (off : Nat) (len : Option Nat) : lenL ts off len = match len with
    | none => (ts.length : Int) - off
    | some n => n := by
  cases len with
  | none => cases off <;> simp [lenL]
  | some n => cases off <;> rfl
/-- the part of a list that a slice has -/
theorem sl_sub {rv v : Value} {sz m off : Nat} {ts : List T} {len : Option Nat} (h : SlOk rv (.lst sz ts m) off len v) :
    ∃ a c, v = .slice a (subL ts off len).length c ∧ (subL ts off len).length ≤ c ∧ ((subL ts off len).length : Int) = lenL ts off len ∧ off + (subL ts off len).length ≤ ts.length ∧
      (∀ i, i < (subL ts off len).length → (subL ts off len)[i]? = ts[off + i]?) ∧ (len = none → off + (subL ts off len).length = ts.length) ∧
      ∃ A C, rv = .slice A ts.length C ∧ (len = none → c = C - off) ∧ c ≤ C - off ∧ (0 < c → ∃ b o, A = some ⟨b, o, none⟩ ∧ a = some ⟨b, o + off * sz, none⟩) := by
  obtain ⟨a, n, c, e, hnc, h1, h2, h3, A, C, h4, h5, h6, h7⟩ := h
  have hn : (subL ts off len).length = n ∧ (n : Int) = lenL ts off len ∧ off + n ≤ ts.length ∧ (len = none → off + n = ts.length) := by
    rw [subL_eq, lenL_eq]
    cases len with
    | none => have := h2 rfl; simp; omega
    | some l => obtain ⟨g1, g2⟩ := h3 l rfl; simp; omega
  obtain ⟨hn, hn2, hn3, hn4⟩ := hn
  refine ⟨a, c, by rw [e, hn], by omega, by rw [hn]; exact hn2, by omega, fun i hi => ?_, fun hl => by rw [hn]; exact hn4 hl, A, C, h4, h5, h6, h7⟩
  rw [subL_eq]
  cases len with
  | none => simp
  | some l =>
    obtain ⟨g1, g2⟩ := h3 l rfl
    simp only [List.getElem?_take, List.getElem?_drop]
    rw [if_pos (by omega)]
theorem RelT.list_of {S : Cells} {w : World} {sz : Nat} {ts : List T} {a : Option Addr} {n c : Nat} (h : RelT S w (.list sz ts) (.slice a n c)) : n = ts.length ∧ ts.length ≤ c ∧ (∀ x ∈ ts, Flat sz x) ∧
    ∃ u : Nat → Nat → Value, (ts ≠ [] → ∃ b o, a = some ⟨b, o, none⟩ ∧ ∀ i j, i < ts.length → j < sz → S b (o + i * sz + j) ∧ w.cell? ⟨b, o + i * sz + j, none⟩ = some (u i j)) ∧
      ∀ (i : Nat) (x : T), ts[i]? = some x → ∀ (j : Nat) (c : T), x.cells[j]? = some c → RelT S w c (u i j) := by
  cases h with
  | list _ _ _ _ u hcap ha hsz hr => exact ⟨rfl, hcap, hsz, u, ha, hr⟩
theorem sl_list {S : Cells} {w : World} {rv v : Value} {sz m off : Nat} {ts : List T} {len : Option Nat} (hT : RelT S w (.list sz ts) rv) (h : SlOk rv (.lst sz ts m) off len v) : RelT S w (.list sz (subL ts off len)) v := by
  obtain ⟨a, c, e, hc, _, hle, hget, _, A, C, h4, h5, h6, h7⟩ := sl_sub h
  subst e
  rw [h4] at hT
  obtain ⟨_, g1, g2, u, g3, g4⟩ := hT.list_of
  refine .list sz _ a c (fun i j => u (off + i) j) hc (fun hne => ?_) (fun x hx => ?_) fun i x hx j c' hc' => ?_
  · have hpos : 0 < (subL ts off len).length := List.length_pos_iff.2 hne
    obtain ⟨b, o, e1, e2⟩ := h7 (by omega)
    have hne' : ts ≠ [] := fun hn => by
      have h0 : ts.length = 0 := by rw [hn]; rfl
      omega
    obtain ⟨b', o', e3, e4⟩ := g3 hne'
    rw [e1] at e3
    simp only [Option.some.injEq, Addr.mk.injEq] at e3
    obtain ⟨rfl, rfl, _⟩ := e3
    refine ⟨b, o + off * sz, e2, fun i j hi hj => ?_⟩
    have := e4 (off + i) j (by omega) hj
    rw [Nat.add_mul] at this
    rw [show o + off * sz + i * sz + j = o + (off * sz + i * sz) + j by omega]
    exact this
  · obtain ⟨i, hi⟩ := List.mem_iff_getElem?.1 hx
    have hlt : i < (subL ts off len).length := by
      rcases Nat.lt_or_ge i (subL ts off len).length with h | h
      · exact h
      · rw [List.getElem?_eq_none h] at hi; cases hi
    rw [hget i hlt] at hi
    exact g2 x (List.mem_of_getElem? hi)
  · have hlt : i < (subL ts off len).length := by
      rcases Nat.lt_or_ge i (subL ts off len).length with h | h
      · exact h
      · rw [List.getElem?_eq_none h] at hx; cases hx
    rw [hget i hlt] at hx
    exact g4 (off + i) x hx j c' hc'

section
variable {P : Program} {Γ : Env} {B : Base} {S : Cells} {ρ : Infos} {tm : List V} {own : Own} {a : Act} {w : World}
variable {o : Oper} {K : V → Own → Log → Prop} {log : Log} {dr : Bool}

/-- one turn of own blocks, the world as it was -/
structure Cvt (Γ : Env) (B : Base) (ρ : Infos) (tm : List V) (a : Act) (w : World) (own : Own) (S : Cells) (own' : Own) (S' : Cells) : Prop where
  rel : Rel Γ B S' ρ ⟨tm, own'⟩ a w
  v : ∀ v u, RelV S w ρ own v u → RelV S' w ρ own' v u
  t : ∀ x u, RelT S w x u → RelT S' w x u
theorem Cvt.refl (h : Rel Γ B S ρ ⟨tm, own⟩ a w) : Cvt Γ B ρ tm a w own S own S := ⟨h, fun _ _ h => h, fun _ _ h => h⟩
theorem Cvt.trans {own1 own2 : Own} {S1 S2 : Cells} (h : Cvt Γ B ρ tm a w own S own1 S1) (k : Cvt Γ B ρ tm a w own1 S1 own2 S2) : Cvt Γ B ρ tm a w own S own2 S2 :=
  ⟨k.rel, fun v u hv => k.v v u (h.v v u hv), fun x u hx => k.t x u (h.t x u hx)⟩
theorem cvt_of {own' : Own} {S' : Cells} (hr : Rel Γ B S ρ ⟨tm, own⟩ a w) (h : Rel Γ B S' ρ ⟨tm, own'⟩ a w) (hS : ∀ b o, S b o → S' b o) (hle : OwnLe own own') : Cvt Γ B ρ tm a w own S own' S' :=
  ⟨h, fun v u hv => RelV.mono hS (Keep.refl (fun _ _ => False) w) (fun _ _ h => h.elim) hr.mem.lt hle (fun _ _ _ => rfl) hv, fun x u hx => hx.keep hS (Keep.refl (fun _ _ => False) w) (fun _ _ h => h.elim) hr.mem.lt⟩

/-- a list that is not written any more -/
theorem frz_lst (hr : Rel Γ B S ρ ⟨tm, own⟩ a w) {k sz : Nat} {ts : List T} (hl : look k own = some (.lst sz ts 0)) : ∃ S', Cvt Γ B ρ tm a w own S (upd k (.lst sz ts 1) own) S' := by
  obtain ⟨h0, A, C, h1, h2, h3⟩ := hr.mem.blk k _ hl
  have hle : Ble (.lst sz ts 0) (.lst sz ts 1) := .inr ⟨ts, 1, rfl, rfl⟩
  by_cases hC : C = 0
  · subst hC
    have hts : ts = [] := List.eq_nil_of_length_eq_zero (by omega)
    subst hts
    refine ⟨S, cvt_of hr (hr.turn hl hle (Keep.refl _ w) (fun _ _ h => h) (fun _ _ h => .inl h) (fun b o hc => ?_) ?_) (fun _ _ h => h) (OwnLe.upd hl hle)⟩
    · obtain ⟨o', sp, n, cap, e, g1, g2⟩ := hc
      rw [h1] at e
      simp only [Value.slice.injEq] at e
      obtain ⟨_, _, rfl⟩ := e
      omega
    · refine ⟨?_, fun b o sp n cap hrv => ?_, fun n cap hrv => ?_⟩
      · rw [h1]; exact .list sz [] A 0 (fun _ _ => undef) (Nat.le_refl _) (fun h => (h rfl).elim) (fun x hx => by simp at hx) fun i x hx => by simp at hx
      · rw [h1] at hrv; simp only [Value.slice.injEq] at hrv; exact .inl (by rw [← hrv.2.2, ← hrv.2.1]; rfl)
      · rw [h1] at hrv; simp only [Value.slice.injEq] at hrv; exact hrv.2.2.symm
  · rcases h3 with h3 | ⟨h3, arr, e, h4, h5, h6⟩
    · exact (hC h3).elim
    · subst h3
      have hcl : claim (ρ k) (.lst sz ts 0) = fun b _ => b = (ρ k).blk := by
        funext b o
        apply propext
        exact ⟨fun h => h.1, fun h => ⟨h, _, _, _, h1, hC⟩⟩
      have hlen : ts.length * sz ≤ C * sz := Nat.mul_le_mul_right _ h2
      refine ⟨fun b o => S b o ∨ (b = (ρ k).blk ∧ o < ts.length * sz), ?_⟩
      have hS : ∀ b o, S b o → S b o ∨ (b = (ρ k).blk ∧ o < ts.length * sz) := fun _ _ h => .inl h
      refine cvt_of hr (hr.turn hl hle (Keep.refl _ w) hS (fun b o h => ?_) (fun b o hc => ?_) ?_) hS (OwnLe.upd hl hle)
      · rcases h with h | h
        · exact .inl h
        · rw [hcl]; exact .inr h.1
      · obtain ⟨o', sp, n, cap, e, g1, g2⟩ := hc
        rw [h1] at e
        simp only [Value.slice.injEq, Option.some.injEq, Addr.mk.injEq] at e
        obtain ⟨⟨rfl, rfl, _⟩, rfl, rfl⟩ := e
        have hc1 : claim (ρ k) (.lst sz ts 0) (ρ k).blk o := by rw [hcl]
        refine ⟨hc1, fun hs => ?_⟩
        rcases hs with hs | hs
        · exact (hr.mem.cl k _ hl _ _ hc1).2 hs
        · omega
      · have mono : ∀ x u, RelT S w x u → RelT (fun b o => S b o ∨ (b = (ρ k).blk ∧ o < ts.length * sz)) w x u := fun x u hx => hx.keep hS (Keep.refl (fun _ _ => False) w) (fun _ _ h => h.elim) hr.mem.lt
        refine ⟨?_, fun b o sp n cap hrv => ?_, fun n cap hrv => ?_⟩
        · rw [h1]
          refine .list sz ts _ C (fun i j => (arr[i * sz + j]?).getD undef) h2 (fun hne => ⟨(ρ k).blk, 0, rfl, fun i j hi hj => ?_⟩) h0 fun i x hx j c hc => ?_
          · have hb : i * sz + j < ts.length * sz := by
              have : (i + 1) * sz ≤ ts.length * sz := Nat.mul_le_mul_right _ hi
              rw [Nat.add_mul] at this; omega
            refine ⟨.inr ⟨rfl, by omega⟩, ?_⟩
            rw [cell_row h4, Nat.zero_add]
            have hlt : i * sz + j < arr.size := by omega
            simp [hlt]
          · obtain ⟨v, g1, g2⟩ := h6 i x j c hx hc
            simp only [g1, Option.getD_some]
            exact mono _ _ g2
        · rw [h1] at hrv
          simp only [Value.slice.injEq, Option.some.injEq, Addr.mk.injEq] at hrv
          obtain ⟨⟨rfl, rfl, rfl⟩, _, rfl⟩ := hrv
          exact .inr ⟨rfl, arr, e, h4, by omega⟩
        · rw [h1] at hrv; simp at hrv
/-- cells that are not written any more -/
theorem frz_cells (hr : Rel Γ B S ρ ⟨tm, own⟩ a w) {k : Nat} {cs : List V} {ts : List T} (hl : look k own = some (.cells cs)) (hn : ts.length = cs.length)
    (h : ∀ arr e, w.heap[(ρ k).blk]? = some (.cells arr e (0, 0)) → ∀ (i : Nat) (c : T) (v : Value), ts[i]? = some c → arr[i]? = some v → RelT S w c v) : ∃ S', Cvt Γ B ρ tm a w own S (upd k (.frz ts) own) S' := by
  obtain ⟨arr, e, h1, h2, h3⟩ := hr.mem.blk k _ hl
  have hle : Ble (.cells cs) (.frz ts) := .inr (.inr ⟨ts, rfl⟩)
  have hS : ∀ b o, S b o → S b o ∨ (b = (ρ k).blk ∧ o < ts.length) := fun _ _ h => .inl h
  refine ⟨fun b o => S b o ∨ (b = (ρ k).blk ∧ o < ts.length), cvt_of hr (hr.turn hl hle (Keep.refl _ w) hS (fun b o h => ?_) (fun b o hc => hc.elim) ?_) hS (OwnLe.upd hl hle)⟩
  · rcases h with h | h
    · exact .inl h
    · exact .inr h.1
  · intro i c hc
    have hi : i < ts.length := by
      rcases Nat.lt_or_ge i ts.length with h | h
      · exact h
      · rw [List.getElem?_eq_none h] at hc; cases hc
    have hlt : i < arr.size := by omega
    have ea : arr[i]? = some arr[i] := by simp [hlt]
    refine ⟨.inr ⟨rfl, hi⟩, arr[i], by rw [cell_row h1, ea], ?_⟩
    exact (h arr e h1 i c _ hc ea).keep hS (Keep.refl (fun _ _ => False) w) (fun _ _ h => h.elim) hr.mem.lt

/-- WHAT IS SETTLED IS A PURE VALUE. -/
def ToOk (n : Nat) : Prop := ∀ (Γ : Env) (B : Base) (ρ : Infos) (tm : List V) (a : Act) (w : World) (dr : Bool) (K : V → Own → Log → Prop) (S : Cells) (own : Own) (log : Log) (v : V) (u : Value) (f : T → Pg),
  Rel Γ B S ρ ⟨tm, own⟩ a w → RelV S w ρ own v u → run dr (toTP n v f) own log K →
  ∃ x own' S' log', run dr (f x) own' log' K ∧ Cvt Γ B ρ tm a w own S own' S' ∧ RelT S' w x u
theorem toTs_ok {n : Nat} (hn : ToOk n) : ∀ (vs : List V) (us : List Value) (S : Cells) (own : Own) (log : Log) (f : List T → Pg), us.length = vs.length → Rel Γ B S ρ ⟨tm, own⟩ a w →
    (∀ (i : Nat) (c : V) (z : Value), vs[i]? = some c → us[i]? = some z → RelV S w ρ own c z) → run dr (toTsWith (toTP n) vs f) own log K →
    ∃ xs own' S' log', run dr (f xs) own' log' K ∧ Cvt Γ B ρ tm a w own S own' S' ∧ xs.length = vs.length ∧ ∀ (i : Nat) (c : T) (z : Value), xs[i]? = some c → us[i]? = some z → RelT S' w c z := by
  intro vs
  induction vs with
  | nil => intro us S own log f hl hr _ h; exact ⟨[], own, S, log, h, .refl hr, rfl, fun i c z hc => by simp at hc⟩
  | cons v vs ih =>
    intro us S own log f hl hr hv h
    cases us with
    | nil => simp at hl
    | cons u us =>
      obtain ⟨x, own1, S1, log1, h1, c1, hx⟩ := hn Γ B ρ tm a w dr K S own log v u _ hr (hv 0 v u rfl rfl) h
      obtain ⟨xs, own2, S2, log2, h2, c2, hl2, hxs⟩ := ih us S1 own1 log1 _ (by simpa using hl) c1.rel (fun i c z hc hz => c1.v _ _ (hv (i + 1) c z (by simpa using hc) (by simpa using hz))) h1
      refine ⟨x :: xs, own2, S2, log2, h2, c1.trans c2, by simp [hl2], fun i c z hc hz => ?_⟩
      cases i with
      | zero => simp at hc hz; subst hc; subst hz; exact c2.t _ _ hx
      | succ i => exact hxs i c z (by simpa using hc) (by simpa using hz)
theorem toT_ok : ∀ n, ToOk n := by
  intro n
  induction n with
  | zero => intro Γ B ρ tm a w dr K S own log v u f hr hv h; exact h.elim
  | succ n ih =>
    intro Γ B ρ tm a w dr K S own log v u f hr hv h
    cases hv with
    | t x v hx => exact ⟨x, own, S, log, h, .refl hr, hx⟩
    | dead v => exact h.elim
    | cl sz xs ad hx => exact ⟨_, own, S, log, h, .refl hr, hx⟩
    | ce ad => exact h.elim
    | eptr => exact h.elim
    | mp => exact h.elim
    | sl k off len b hb v hs =>
      replace h := rd_elim h
      obtain ⟨b', hb', h⟩ := h
      rw [hb] at hb'; cases hb'
      split at h
      · rename_i sz ts m
        split at h
        · replace h := wr_elim h
          obtain ⟨S', c1⟩ := frz_lst hr hb
          have hB := c1.rel.mem.blk k (.lst sz ts 1) (by rw [look_upd hb]; simp)
          exact ⟨_, _, S', _, h, c1, sl_list (m := 1) hB.1 hs⟩
        · rename_i m'
          refine ⟨_, own, S, _, h, .refl hr, ?_⟩
          have hB := hr.mem.blk k _ hb
          match m', hB with
          | 0, hB => exact sl_list hB.1 hs
          | m' + 1, hB => exact sl_list hB hs
      · exact h.elim
    | ptr k off b hb =>
      replace h := rd_elim h
      obtain ⟨b', hb', h⟩ := h
      rw [hb] at hb'; cases hb'
      have fin : ∀ (S' : Cells) (own' : Own) (ts : List T), Cvt Γ B ρ tm a w own S own' S' → look k own' = some (.frz ts) → RelT S' w (.ref (ts.drop off)) (.pointer (some ⟨(ρ k).blk, off, none⟩)) := by
        intro S' own' ts hc hl
        have hB := hc.rel.mem.blk k _ hl
        refine .ref _ _ _ (fun i => (w.cell? ⟨(ρ k).blk, off + i, none⟩).getD undef) (fun i hi => ?_) fun i c hc => ?_
        · have hlt : off + i < ts.length := by simp at hi; omega
          obtain ⟨g1, u, g2, g3⟩ := hB (off + i) ts[off + i] (by simp [hlt])
          exact ⟨g1, by simp [g2]⟩
        · rw [List.getElem?_drop] at hc
          obtain ⟨g1, u, g2, g3⟩ := hB (off + i) c hc
          simpa [g2] using g3
      split at h
      · exact ⟨_, own, S, _, h, .refl hr, fin S own _ (.refl hr) hb⟩
      · rename_i cs
        obtain ⟨arr, e, h1, h2, h3⟩ := hr.mem.blk k _ hb
        obtain ⟨ts, own1, S1, log1, g1, c1, g2, g3⟩ := toTs_ok ih cs arr.toList S own _ _ (by simpa using h2) hr (fun i c z hc hz => h3 i c z hc (by simpa using hz)) h
        replace g1 := (onesP_elim g1).2
        replace g1 := rd_elim g1
        obtain ⟨b2, hb2, g1⟩ := g1
        split at g1
        · rename_i cs2
          replace g1 := wr_elim g1
          obtain ⟨arr2, e2, k1, k2, k3⟩ := c1.rel.mem.blk k _ hb2
          rw [h1] at k1
          simp only [Option.some.injEq, Obj.cells.injEq] at k1
          obtain ⟨rfl, rfl, _⟩ := k1
          obtain ⟨S2, c2⟩ := frz_cells c1.rel hb2 (ts := ts) (by omega) (fun arr3 e3 hh i c v hc hv => by
            rw [h1] at hh
            simp only [Option.some.injEq, Obj.cells.injEq] at hh
            obtain ⟨rfl, _⟩ := hh
            exact g3 i c v hc (by simpa using hv))
          exact ⟨_, _, S2, _, g1, c1.trans c2, fin S2 _ ts (c1.trans c2) (by rw [look_upd hb2]; simp)⟩
        · exact g1.elim
      · exact h.elim
    | fn fn xs ys va vb hna hnb h1 h2 =>
      obtain ⟨ts, own1, S1, log1, g1, c1, g2, g3⟩ := toTs_ok ih xs va.toList S own _ _ (by simpa using hna) hr (fun i c z hc hz => h1 i c z hc (by simpa using hz)) h
      obtain ⟨ss, own2, S2, log2, g4, c2, g5, g6⟩ := toTs_ok ih ys vb.toList S1 own1 _ _ (by simpa using hnb) c1.rel (fun i c z hc hz => c1.v _ _ (h2 i c z hc (by simpa using hz))) g1
      refine ⟨_, own2, S2, log2, g4, c1.trans c2, .fn fn ts ss va vb (by omega) (by omega) (fun i c v hc hv => c2.t _ _ (g3 i c v hc (by simpa using hv))) fun i c v hc hv => g6 i c v hc (by simpa using hv)⟩
    | agg cs arr hn h1 =>
      obtain ⟨ts, own1, S1, log1, g1, c1, g2, g3⟩ := toTs_ok ih cs arr.toList S own _ _ (by simpa using hn) hr (fun i c z hc hz => h1 i c z hc (by simpa using hz)) h
      exact ⟨_, own1, S1, log1, g1, c1, .agg ts arr (by omega) fun i c v hc hv => g3 i c v hc (by simpa using hv)⟩
    | tup cs arr hn h1 =>
      obtain ⟨ts, own1, S1, log1, g1, c1, g2, g3⟩ := toTs_ok ih cs arr.toList S own _ _ (by simpa using hn) hr (fun i c z hc hz => h1 i c z hc (by simpa using hz)) h
      exact ⟨_, own1, S1, log1, g1, c1, .tup ts arr (by omega) fun i c v hc hv => g3 i c v hc (by simpa using hv)⟩
end
end Go.Nx
