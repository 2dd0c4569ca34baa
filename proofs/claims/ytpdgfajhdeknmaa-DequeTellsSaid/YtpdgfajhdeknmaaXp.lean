/-
  APPEND ONTO A LIST THAT IS SETTLED, BUT FOR WHAT IS BEHIND ITS END; THE STEP.
-/
import Derived.Test.YtpdgfajhdeknmaaXo
set_option linter.unusedVariables false
set_option linter.unusedSimpArgs false
namespace Go.Nx
open Go.RowKit

section
variable {P : Program} {Γ : Env} {B : Base} {S : Cells} {ρ : Infos} {tm : List V} {own : Own} {a : Act} {w : World}
variable {o : Oper} {K : V → Own → Log → Prop} {log : Log} {dr : Bool}

theorem app_spare (hr : Rel Γ B S ρ ⟨tm, own⟩ a w) {x y : Operand} {c : Call} {t tu e : TypeId} {i : TypeInfo} {z : Value} (hc : c.callee = .builtin .append) (ha : c.args = #[x, y]) (ht0 : c.argTypes = #[t, tu]) (ho : o.op = .call c)
    (ht : P.underlying t = some (.slice e)) (hi : P.info? e = some i) (hz : i.zero = some z) (hzs : z.cells.size = i.size) (hp : 0 < i.bytes) (hsz : 0 < i.size) {k off : Nat} {ts : List T} (hx : RelV S w ρ own (.sl k off none) (a.eval x)) (hl : look k own = some (.lst i.size ts 1))
    {xs : List T} {news : List Value} (AS : ASrc P S w t tu o.type e i (a.eval y) xs news) {k' : Nat} (hfit : (ts.length + xs.length) * i.bytes ≤ maxBytes) (hf : look k' (upd k (.lst i.size ts 2) own) = none)
    (h : K (.sl k' 0 none) ((k', .lst i.size (subL ts off none ++ xs) 1) :: upd k (.lst i.size ts 2) own) log) : Did P Γ B o a w tm K := by
  have hf' : look k' own = none := by
    rw [look_upd hl] at hf
    split at hf
    · cases hf
    · exact hf
  have hs0 := sl_of hx hl
  obtain ⟨hTrv, hspare, hnone⟩ := hr.mem.blk k _ hl
  have hT := sl_list hTrv hs0
  obtain ⟨ad0, c0, e0, hnc, hlen0, hle0, hget, hlast, A, C, q4, q5, q6, q7⟩ := sl_sub hs0
  have hc0 := q5 rfl
  have hn0 := hlast rfl
  generalize hys : subL ts off none = ys at *
  rw [e0] at hT
  have hflat : ∀ x ∈ ys ++ xs, Flat i.size x := fun x hx => by
    rcases List.mem_append.1 hx with hx | hx
    · exact (rdl_of_t hT).sz x hx
    · exact AS.flat x hx
  have hle2 : Ble (.lst i.size ts 1) (.lst i.size ts 2) := .inr ⟨ts, 2, rfl, rfl⟩
  have hno : ∀ b o, ¬ claim (ρ k) (.lst i.size ts 2) b o := fun b o h => h
  have hS0 : ∀ b o, claim (ρ k) (.lst i.size ts 1) b o → ¬ S b o := fun b o hc hs => (hr.mem.cl k _ hl b o hc).2 hs
  have hfit2 : (ys.length + xs.length) * i.bytes ≤ maxBytes := Nat.le_trans (Nat.mul_le_mul_right _ (by omega)) hfit
  by_cases hroom : ys.length + xs.length ≤ c0
  · by_cases hxs : xs = []
    · subst hxs
      have hn : news = [] := List.eq_nil_of_length_eq_zero (by simpa using AS.len)
      subst hn
      have hrun := app_run (o := o) hc ha ht0 ho (by rw [e0]; exact AS.fit _ _ _ _ hroom (fun b hb => stC_nil) (fun _ => rfl))
      obtain ⟨ρ', h1, h2, h3⟩ := hr.hand (k := k) (k' := k') (blk2 := .lst i.size ts 2) (blk' := .lst i.size (ys ++ []) 1) (w' := w) (S' := S) ⟨0, .slice ad0 ys.length c0⟩ hl hf' hle2 (.refl _ w) (fun _ _ h => h) (fun _ _ h => .inl h) hno
        (fun b o hc => by
          obtain ⟨o', sp, n, cap, e, g1, g2⟩ := hc
          simp only [Value.slice.injEq] at e
          obtain ⟨e3, rfl, rfl⟩ := e
          have hcp : 0 < c0 := by
            rcases Nat.eq_zero_or_pos c0 with h | h
            · rw [h] at g2; omega
            · exact h
          obtain ⟨b', o2, p1, p2⟩ := q7 hcp
          rw [e3] at p2
          simp only [Option.some.injEq, Addr.mk.injEq] at p2
          obtain ⟨rfl, rfl, rfl⟩ := p2
          have hcl : claim (ρ k) (.lst i.size ts 1) b o := by
            refine ⟨o2, none, ts.length, C, by rw [q4, p1], ?_, ?_⟩
            · have : (off + ys.length) * i.size = ts.length * i.size := by rw [hn0]
              rw [Nat.add_mul] at this; omega
            · have : (off + c0) * i.size ≤ C * i.size := Nat.mul_le_mul_right _ (by omega)
              rw [Nat.add_mul] at this; omega
          exact ⟨.inl hcl, hS0 b o hcl⟩)
        (fun ρ' e1 e2 => by
          show RelT S w (.list i.size ts) (ρ' k).rv
          rw [e2 k _ hl]; exact hTrv)
        (fun ρ' e1 e2 => by
          refine ⟨by rw [e1]; simpa using hT, fun b o sp n cap hrv => ?_, fun n cap hrv => ?_⟩
          · rw [e1] at hrv
            simp only [Value.slice.injEq] at hrv
            obtain ⟨e3, rfl, rfl⟩ := hrv
            by_cases hcc : c0 = ys.length
            · exact .inl hcc
            · obtain ⟨b', o2, p1, p2⟩ := q7 (by omega)
              rw [e3] at p2
              simp only [Option.some.injEq, Addr.mk.injEq] at p2
              obtain ⟨rfl, rfl, rfl⟩ := p2
              rcases hspare _ _ _ _ _ (by rw [q4, p1]) with h | ⟨_, arr, et, h4, h5⟩
              · omega
              · refine .inr ⟨rfl, arr, et, h4, ?_⟩
                have : (off + c0) * i.size ≤ C * i.size := Nat.mul_le_mul_right _ (by omega)
                rw [Nat.add_mul] at this; omega
          · rw [e1] at hrv
            simp only [Value.slice.injEq] at hrv
            obtain ⟨e3, rfl, rfl⟩ := hrv
            rcases Nat.eq_zero_or_pos c0 with h | h
            · exact h
            · obtain ⟨b', o2, p1, p2⟩ := q7 h
              rw [e3] at p2; cases p2)
      refine ⟨_, _, _, S, ρ', w, _, h, h3, ?_, .inl hrun⟩
      have := sl_whole (S := S) (w' := w) (ρ' := ρ') (C := c0) (A := ad0) (m := 1) (sz := i.size) (ts := ys ++ []) (own' := (k', .lst i.size (ys ++ []) 1) :: upd k (.lst i.size ts 2) own) (k := k') (by simp [look]) (by rw [h1]; simp) (by simpa using hnc) (fun hcp => by
        obtain ⟨b', o2, p1, p2⟩ := q7 hcp
        exact ⟨_, _, p2⟩)
      simpa using this
    · have hpos : 0 < xs.length := List.length_pos_iff.2 hxs
      obtain ⟨b', o2, p1, p2⟩ := q7 (by omega)
      subst p1 p2
      rcases hspare _ _ _ _ _ q4 with h | ⟨_, arr, et, h4, h5⟩
      · omega
      · have hnl := AS.len
        have hlen : (ys.length + xs.length) * i.size ≤ c0 * i.size := Nat.mul_le_mul_right _ hroom
        rw [Nat.add_mul] at hlen
        have hoc : (off + c0) * i.size ≤ C * i.size := Nat.mul_le_mul_right _ (by omega)
        rw [Nat.add_mul] at hoc
        have hoN : (off + ys.length) * i.size = ts.length * i.size := by rw [hn0]
        rw [Nat.add_mul] at hoN
        obtain ⟨w', r1, r2, r3⟩ := run_storeCells1 (P := P) (off := o2 + off * i.size + ys.length * i.size) news 0 w arr h4 (by omega) AS.one
        rw [Nat.add_zero] at r2
        have hrun := app_run (o := o) hc ha ht0 ho (by rw [e0]; exact AS.fit _ _ _ _ hroom (fun b hb => by cases hb; rw [add_addr]; exact r1) (fun h => by cases h))
        have l1 : o2 + off * i.size + ys.length * i.size + news.length ≤ arr.toList.length := by simp; omega
        -- what is written is what is claimed
        have hk : Keep (claim (ρ k) (.lst i.size ts 1)) w w' := by
          refine ⟨r3.os, r3.tape, r3.output, r3.size, fun b hb => ?_⟩
          by_cases eb : b = b'
          · subst eb
            refine .inr (.inl ⟨arr, _, et, (0, 0), h4, r2, by simp [putN_length _ _ _ (Or.inr l1)], fun j hj => ?_⟩)
            simp only [List.getElem?_toArray]
            rw [putN_get _ _ _ _ l1]
            split
            · rename_i hin
              exact (hj ⟨o2, none, ts.length, C, q4, by omega, by omega⟩).elim
            · simp
          · rcases r3.blk b hb with h | ⟨c1, c2, e3, f, g1, g2, g3, g4⟩ | ⟨h0, _⟩
            · exact .inl h
            · refine .inr (.inl ⟨c1, c2, e3, f, g1, g2, g3, fun j hj => g4 j eb⟩)
            · exact (eb h0).elim
        have hS : ∀ b o, S b o → S b o ∨ (b = b' ∧ o2 + ts.length * i.size ≤ o ∧ o < o2 + (ts.length + xs.length) * i.size) := fun _ _ h => .inl h
        have mono : ∀ c u, RelT S w c u → RelT (fun b o => S b o ∨ (b = b' ∧ o2 + ts.length * i.size ≤ o ∧ o < o2 + (ts.length + xs.length) * i.size)) w' c u := fun c u hcu => hcu.keep hS hk hS0 hr.mem.lt
        have hadd : (ts.length + xs.length) * i.size = ts.length * i.size + xs.length * i.size := Nat.add_mul _ _ _
        obtain ⟨ρ', h1, h2, h3⟩ := hr.hand (k := k) (k' := k') (blk2 := .lst i.size ts 2) (blk' := .lst i.size (ys ++ xs) 1) (w' := w') (S' := fun b o => S b o ∨ (b = b' ∧ o2 + ts.length * i.size ≤ o ∧ o < o2 + (ts.length + xs.length) * i.size))
          ⟨b', .slice (some ⟨b', o2 + off * i.size, none⟩) (ys ++ xs).length c0⟩ hl hf' hle2 hk hS
          (fun b o h => by
            rcases h with h | ⟨rfl, g1, g2⟩
            · exact .inl h
            · exact .inr (.inl ⟨o2, none, ts.length, C, q4, g1, by omega⟩)) hno
          (fun b o hc => by
            obtain ⟨o', sp, n, cap, e, g1, g2⟩ := hc
            simp only [Value.slice.injEq, Option.some.injEq, Addr.mk.injEq] at e
            obtain ⟨⟨rfl, rfl, _⟩, rfl, rfl⟩ := e
            rw [List.length_append, Nat.add_mul] at g1
            have hcl : claim (ρ k) (.lst i.size ts 1) b' o := ⟨o2, none, ts.length, C, q4, by omega, by omega⟩
            refine ⟨.inl hcl, fun hs => ?_⟩
            rcases hs with hs | hs
            · exact hS0 _ _ hcl hs
            · omega)
          (fun ρ' e1 e2 => by
            show RelT _ w' (.list i.size ts) (ρ' k).rv
            rw [e2 k _ hl]; exact mono _ _ hTrv)
          (fun ρ' e1 e2 => by
            refine ⟨?_, fun b o sp n cap hrv => ?_, fun n cap hrv => ?_⟩
            · rw [e1]
              obtain ⟨_, _, g2, u, g3, g4⟩ := hT.list_of
              refine .list i.size (ys ++ xs) _ c0 (fun q j => if q < ys.length then u q j else (news[(q - ys.length) * i.size + j]?).getD undef) (by rw [List.length_append]; exact hroom) (fun hne => ⟨b', o2 + off * i.size, rfl, fun q j hq hj => ?_⟩) hflat fun q x hx j c hc => ?_
              · by_cases hq2 : q < ys.length
                · simp only [if_pos hq2]
                  obtain ⟨b3, o3, e3, h3⟩ := g3 (fun hn => by subst hn; simp at hq2)
                  simp only [Option.some.injEq, Addr.mk.injEq] at e3
                  obtain ⟨rfl, rfl, _⟩ := e3
                  obtain ⟨k1, k2⟩ := h3 q j hq2 hj
                  exact ⟨.inl k1, by rw [hk.cell (fun hc => hS0 _ _ hc k1) (hr.mem.lt _ _ k1)]; exact k2⟩
                · simp only [if_neg hq2]
                  rw [List.length_append] at hq
                  have hb1 : (q - ys.length + 1) * i.size ≤ xs.length * i.size := Nat.mul_le_mul_right _ (by omega)
                  rw [Nat.add_mul] at hb1
                  have hge : ys.length * i.size ≤ q * i.size := Nat.mul_le_mul_right _ (by omega)
                  have hsub : (q - ys.length) * i.size = q * i.size - ys.length * i.size := Nat.sub_mul _ _ _
                  refine ⟨.inr ⟨by first | trivial | rfl, by omega, by omega⟩, ?_⟩
                  rw [cell_row r2]
                  simp only [List.getElem?_toArray]
                  rw [putN_get _ _ _ _ l1, if_pos (by omega)]
                  rw [show o2 + off * i.size + q * i.size + j - (o2 + off * i.size + ys.length * i.size) = (q - ys.length) * i.size + j by omega]
                  have hlt : (q - ys.length) * i.size + j < news.length := by omega
                  simp [hlt]
              · by_cases hq2 : q < ys.length
                · simp only [if_pos hq2]
                  rw [List.getElem?_append_left hq2] at hx
                  exact mono _ _ (g4 q x hx j c hc)
                · simp only [if_neg hq2]
                  rw [List.getElem?_append_right (by omega)] at hx
                  obtain ⟨u', k1, k2⟩ := AS.rel _ x j c hx hc
                  rw [k1]; exact mono _ _ k2
            · rw [e1] at hrv
              simp only [Value.slice.injEq, Option.some.injEq, Addr.mk.injEq] at hrv
              obtain ⟨⟨rfl, rfl, rfl⟩, rfl, rfl⟩ := hrv
              exact .inr ⟨rfl, _, et, r2, by simp [putN_length _ _ _ (Or.inr l1)]; omega⟩
            · rw [e1] at hrv; simp at hrv)
        refine ⟨_, _, _, _, ρ', w', _, h, h3, ?_, .inl hrun⟩
        have := sl_whole (S := fun b o => S b o ∨ (b = b' ∧ o2 + ts.length * i.size ≤ o ∧ o < o2 + (ts.length + xs.length) * i.size)) (w' := w') (ρ' := ρ') (k := k') (C := c0) (A := some ⟨b', o2 + off * i.size, none⟩) (m := 1) (sz := i.size) (ts := ys ++ xs) (own' := (k', .lst i.size (ys ++ xs) 1) :: upd k (.lst i.size ts 2) own) (by simp [look]) (by rw [h1]) (by rw [List.length_append]; exact hroom) (fun _ => ⟨_, _, rfl⟩)
        simpa using this
  · obtain ⟨_, _, olds, e2, _, ry⟩ := rdl_read (rdl_of_t hT) (.inr rfl) hsz
    obtain ⟨C2, arr, w', g1, g2, g3, g4, g5⟩ := grew (ty := o.type) (S := S) ht hi hz hzs hp e0 AS (e0 ▸ ry) (fun x hx => hflat x (by simp [hx])) (fun x hx => hflat x (by simp [hx])) (by omega) hfit2
    have hrun := app_run (o := o) hc ha ht0 ho g1
    subst g2
    have hk := keep_grew (w := w) (claim (ρ k) (.lst i.size ts 1)) (w.drawn + 1) (.cells arr e)
    have hS : ∀ b o, S b o → S b o ∨ (b = w.heap.size ∧ o < (ys ++ xs).length * i.size) := fun _ _ h => .inl h
    obtain ⟨ρ', h1, h2, h3⟩ := hr.hand (k := k) (k' := k') (blk2 := .lst i.size ts 2) (blk' := .lst i.size (ys ++ xs) 1) (S' := fun b o => S b o ∨ (b = w.heap.size ∧ o < (ys ++ xs).length * i.size)) ⟨w.heap.size, .slice (some ⟨w.heap.size, 0, none⟩) (ys ++ xs).length C2⟩ hl hf' hle2 hk hS
      (fun b o h => h.imp id fun h => .inr ⟨by omega, by simp; omega⟩) hno
      (fun b o hc => by
        obtain ⟨o', sp, m, cap, e1, g1, g2⟩ := hc
        simp only [Value.slice.injEq, Option.some.injEq, Addr.mk.injEq] at e1
        obtain ⟨⟨rfl, rfl, _⟩, rfl, rfl⟩ := e1
        refine ⟨.inr ⟨Nat.le_refl _, by simp⟩, fun hs => ?_⟩
        rcases hs with hs | hs
        · have := hr.mem.lt _ _ hs; omega
        · omega)
      (fun ρ' e1 e2 => by
        show RelT _ _ (.list i.size ts) (ρ' k).rv
        rw [e2 k _ hl]; exact hTrv.keep hS hk hS0 hr.mem.lt)
      (fun ρ' e1 e2 => relB_settled hS (fun o ho => .inr ⟨rfl, ho⟩) hr.mem.lt e1 hflat g3 g4 g5)
    exact ⟨_, _, _, _, ρ', _, _, h, h3, sl_whole (m := 1) (sz := i.size) (ts := ys ++ xs) (by simp [look]) (by rw [h1]) g3 (fun _ => ⟨_, _, rfl⟩), .inl hrun⟩

theorem op_appTo (hr : Rel Γ B S ρ ⟨tm, own⟩ a w) {x y : Operand} {c : Call} {t tu e : TypeId} {i : TypeInfo} {z : Value} {vx : V} (hx : RelV S w ρ own vx (a.eval x)) (hc : c.callee = .builtin .append) (ha : c.args = #[x, y]) (ht0 : c.argTypes = #[t, tu]) (ho : o.op = .call c)
    (ht : P.underlying t = some (.slice e)) (hi : P.info? e = some i) (hz : i.zero = some z) (hzs : z.cells.size = i.size) (hp : 0 < i.bytes) (hsz : 0 < i.size) {xs : List T} {news : List Value} (AS : ASrc P S w t tu o.type e i (a.eval y) xs news) {kb : Nat} (h : run dr (appTo kb i.size i.bytes vx xs) own log K) : Did P Γ B o a w tm K := by
  unfold appTo at h
  split at h
  · exact app_fresh hr hc ha ht0 ho ht hi hz hzs hp hsz (nils_of hx.t_of) AS h
  · obtain ⟨ad, e⟩ := ce_of hx
    exact app_fresh hr hc ha ht0 ho ht hi hz hzs hp hsz e AS h
  · rename_i sz' ys
    replace h := natP_elim h
    obtain ⟨hq, h⟩ := h
    rw [Nat.beq_eq] at hq; subst hq
    exact app_cl hr hc ha ht0 ho ht hi hz hzs hp hsz hx AS h
  · rename_i k off
    replace h := rd_elim h
    obtain ⟨b, hb, h⟩ := h
    split at h
    · rename_i sz' ts m
      replace h := natP_elim h
      obtain ⟨hq, h⟩ := h
      rw [Nat.beq_eq] at hq; subst hq
      replace h := req_elim h
      obtain ⟨hfit, h⟩ := h
      split at h
      · split at h
        · replace h := wr_elim h
          replace h := new_elim h
          obtain ⟨hf, h⟩ := h
          exact app_own hr hc ha ht0 ho ht hi hz hzs hp hsz hx hb AS hfit hf h
        · exact h.elim
      · replace h := wr_elim h
        replace h := new_elim h
        obtain ⟨hf, h⟩ := h
        exact app_spare hr hc ha ht0 ho ht hi hz hzs hp hsz hx hb AS hfit hf h
      · exact h.elim
    · exact h.elim
  · exact h.elim

theorem op_app (hr : Rel Γ B S ρ ⟨tm, own⟩ a w) {x y : Operand} {c : Call} {t tu e e2 : TypeId} {i : TypeInfo} {z : Value} {vx vy : V} (hx : RelV S w ρ own vx (a.eval x)) (hy : RelV S w ρ own vy (a.eval y)) (hc : c.callee = .builtin .append) (ha : c.args = #[x, y]) (ht0 : c.argTypes = #[t, tu]) (ho : o.op = .call c)
    (ht : P.underlying t = some (.slice e)) (hu : P.underlying tu = some (.slice e2)) (hi : P.info? e = some i) (hz : i.zero = some z) (hzs : z.cells.size = i.size) (hp : 0 < i.bytes) (hsz : 0 < i.size) {base key : Nat} {x' y' : Opd} (h : run dr (prog base (.app key i.size i.bytes x' y') [vx, vy]) own log K) : Did P Γ B o a w tm K := by
  simp only [prog] at h
  replace h := listP_elim hr hy h
  obtain ⟨sz, xs, log', h, hl⟩ := h
  replace h := req_elim h
  obtain ⟨hs, h⟩ := h
  obtain ⟨news, AS⟩ := asrc_rdl (ty := o.type) ht hu hi hl hs hsz
  exact op_appTo hr hx hc ha ht0 ho ht hi hz hzs hp hsz AS h
theorem op_appz (hr : Rel Γ B S ρ ⟨tm, own⟩ a w) {x y : Operand} {c : Call} {t tu e : TypeId} {i : TypeInfo} {z : T} {kn : IntKind} {vx vy : V} (hx : RelV S w ρ own vx (a.eval x)) (hy : RelV S w ρ own vy (a.eval y)) (hc : c.callee = .builtin .append) (ha : c.args = #[x, y]) (ht0 : c.argTypes = #[t, tu]) (ho : o.op = .call c)
    (ht : P.underlying t = some (.slice e)) (htn : P.underlying tu = some (.int kn)) (hi : P.info? e = some i) (hz : zeroT P e = some z) (hzs : z.cells.length = i.size) (hfl : z.one = true ∨ ∃ cs, z = .agg cs) (hz1 : ∀ c ∈ z.cells, c.one = true) (hp : 0 < i.bytes) (hsz : 0 < i.size) {base key : Nat} {x' y' : Opd}
    (h : run dr (prog base (.appz key i.size i.bytes z x' y') [vx, vy]) own log K) : Did P Γ B o a w tm K := by
  simp only [prog] at h
  replace h := intP_elim h
  obtain ⟨kk, n, rfl, h⟩ := h
  have e1 := RelT.int_of hy.t_of
  replace h := req_elim h
  obtain ⟨⟨q1, q2⟩, h⟩ := h
  obtain ⟨i', zv, g1, g2, g3⟩ := zeroT_spec hz
  rw [hi] at g1; cases g1
  have hm : maxBytes = 140737488355328 := rfl
  have hb1 : (1 : Int) ≤ i.bytes := by omega
  have hn : n ≤ 140737488355328 := by
    have : n * 1 ≤ n * (i.bytes : Int) := Int.mul_le_mul_of_nonneg_left hb1 q1
    rw [hm] at q2; omega
  obtain ⟨news, AS⟩ := asrc_zeros (S := S) (w := w) (ty := o.type) (k := kk) ht htn hi hz (by omega) hzs hfl hz1 q1 hn (by rw [hm] at q2; exact q2)
  rw [← e1] at AS
  obtain ⟨c1, c2⟩ := RelT.cells (g3 S w) hfl
  exact op_appTo hr hx hc ha ht0 ho ht hi g2 (by rw [c1, hzs]) hp hsz AS h
end
end Go.Nx
