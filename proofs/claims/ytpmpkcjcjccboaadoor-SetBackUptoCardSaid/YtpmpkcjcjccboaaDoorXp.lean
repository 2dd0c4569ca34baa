/-
  APPEND ONTO A LIST THAT IS SETTLED, BUT FOR WHAT IS BEHIND ITS END; THE STEP.
-/
import Derived.Test.YtpmpkcjcjccboaaDoorXo
set_option linter.unusedVariables false
set_option linter.unusedSimpArgs false
namespace Go.Nx
open Go.RowKit

section
variable {P : Program} {Γ : Env} {B : Base} {S : Cells} {ρ : Infos} {tm : List V} {own : Own} {a : Act} {w : World}
variable {o : Oper} {K : V → Own → Log → Prop} {log : Log} {dr : Bool}

theorem app_spare (hr : Rel Γ B S ρ ⟨tm, own⟩ a w) {x y : Operand} {c : Call} {t tu e : TypeId} {i : TypeInfo} {z : Value} (hc : c.callee = .builtin .append) (ha : c.args = #[x, y]) (ht0 : c.argTypes = #[t, tu]) (ho : o.op = .call c)
    (ht : P.underlying t = some (.slice e)) (hi : P.info? e = some i) (hz : i.zero = some z) (hzs : z.cells.size = i.size) (hp : 0 < i.bytes) (hsz : 0 < i.size) {k off : Nat} {ts : List T} (hx : RelV S w ρ own (.sl k off none) (a.eval x)) (hl : look k own = some (.lst i.size ts 1))
    {xs : List T} {news : List Value} (AS : ASrc P S w t tu o.type e i (a.eval y) xs news) {k' : Nat} (hfit : (ts.length + xs.length) * i.bytes ≤ maxBytes) (hf : look k' (upd k (.lst i.size ts 2) own) = none)
    (h : K (.sl k' 0 none) ((k', .lst i.size (subL ts off none ++ xs) 1) :: upd k (.lst i.size ts 2) own) log) : Did P Γ B o a w tm K := by
  have hf' : look k' own = none := by
    rw [look_upd hl] at hf
    split at hf
    · cases hf
    · exact hf
  have hs0 := sl_of hx hl
  obtain ⟨hTrv, hspare, hnone⟩ := hr.mem.blk k _ hl
  have hT := sl_list hTrv hs0
  obtain ⟨ad0, c0, e0, hnc, hlen0, hle0, hget, hlast, A, C, q4, q5, q6, q7⟩ := sl_sub hs0
  have hc0 := q5 rfl
  have hn0 := hlast rfl
  generalize hys : subL ts off none = ys at *
  rw [e0] at hT
  have hflat : ∀ x ∈ ys ++ xs, Flat i.size x := fun x hx => by
    rcases List.mem_append.1 hx with hx | hx
    · exact (rdl_of_t hT).sz x hx
    · exact AS.flat x hx
  have hle2 : Ble (.lst i.size ts 1) (.lst i.size ts 2) := .inr ⟨ts, 2, rfl, rfl⟩
  have hno : ∀ b o, ¬ claim (ρ k) (.lst i.size ts 2) b o := fun b o h => h
  have hS0 : ∀ b o, claim (ρ k) (.lst i.size ts 1) b o → ¬ S b o := fun b o hc hs => (hr.mem.cl k _ hl b o hc).2 hs
  have hfit2 : (ys.length + xs.length) * i.bytes ≤ maxBytes := Nat.le_trans (Nat.mul_le_mul_right _ (by omega)) hfit
  by_cases hroom : ys.length + xs.length ≤ c0
  · by_cases hxs : xs = []
    · subst hxs
      have hn : news = [] := List.eq_nil_of_length_eq_zero (by simpa using AS.len)
      subst hn
      have hrun := app_run (o := o) hc ha ht0 ho (by rw [e0]; exact AS.fit _ _ _ _ hroom (fun b hb => stC_nil) (fun _ => rfl))
      obtain ⟨ρ', h1, h2, h3⟩ := hr.hand (k := k) (k' := k') (blk2 := .lst i.size ts 2) (blk' := .lst i.size (ys ++ []) 1) (w' := w) (S' := S) ⟨0, .slice ad0 ys.length c0⟩ hl hf' hle2 (.refl _ w) (fun _ _ h => h) (fun _ _ h => .inl h) hno
        (fun b o hc => by
          obtain ⟨o', sp, n, cap, e, g1, g2⟩ := hc
          simp only [Value.slice.injEq] at e
          obtain ⟨e3, rfl, rfl⟩ := e
          have hcp : 0 < c0 := by
            rcases Nat.eq_zero_or_pos c0 with h | h
            · rw [h] at g2; omega
            · exact h
          obtain ⟨b', o2, p1, p2⟩ := q7 hcp
          rw [e3] at p2
          simp only [Option.some.injEq, Addr.mk.injEq] at p2
          obtain ⟨rfl, rfl, rfl⟩ := p2
          have hcl : claim (ρ k) (.lst i.size ts 1) b o := by
            refine ⟨o2, none, ts.length, C, by rw [q4, p1], ?_, ?_⟩
            · have : (off + ys.length) * i.size = ts.length * i.size := by rw [hn0]
              rw [Nat.add_mul] at this; omega
            · have : (off + c0) * i.size ≤ C * i.size := Nat.mul_le_mul_right _ (by omega)
              rw [Nat.add_mul] at this; omega
          exact ⟨.inl hcl, hS0 b o hcl⟩)
        (fun ρ' e1 e2 => by
          show RelT S w (.list i.size ts) (ρ' k).rv
          rw [e2 k _ hl]; exact hTrv)
        (fun ρ' e1 e2 => by
          refine ⟨by rw [e1]; simpa using hT, fun b o sp n cap hrv => ?_, fun n cap hrv => ?_⟩
          · rw [e1] at hrv
            simp only [Value.slice.injEq] at hrv
            obtain ⟨e3, rfl, rfl⟩ := hrv
            by_cases hcc : c0 = ys.length
            · exact .inl hcc
            · obtain ⟨b', o2, p1, p2⟩ := q7 (by omega)
              rw [e3] at p2
              simp only [Option.some.injEq, Addr.mk.injEq] at p2
              obtain ⟨rfl, rfl, rfl⟩ := p2
              rcases hspare _ _ _ _ _ (by rw [q4, p1]) with h | ⟨_, arr, et, h4, h5⟩
              · omega
              · refine .inr ⟨rfl, arr, et, h4, ?_⟩
                have : (off + c0) * i.size ≤ C * i.size := Nat.mul_le_mul_right _ (by omega)
                rw [Nat.add_mul] at this; omega
          · rw [e1] at hrv
            simp only [Value.slice.injEq] at hrv
            obtain ⟨e3, rfl, rfl⟩ := hrv
            rcases Nat.eq_zero_or_pos c0 with h | h
            · exact h
            · obtain ⟨b', o2, p1, p2⟩ := q7 h
              rw [e3] at p2; cases p2)
      refine ⟨_, _, _, S, ρ', w, _, h, h3, ?_, .inl hrun⟩
      have := sl_whole (S := S) (w' := w) (ρ' := ρ') (C := c0) (A := ad0) (m := 1) (sz := i.size) (ts := ys ++ []) (own' := (k', .lst i.size (ys ++ []) 1) :: upd k (.lst i.size ts 2) own) (k := k') (by simp [look]) (by rw [h1]; simp) (by simpa using hnc) (fun hcp => by
        obtain ⟨b', o2, p1, p2⟩ := q7 hcp
        exact ⟨_, _, p2⟩)
      simpa using this
    · have hpos : 0 < xs.length := List.length_pos_iff.2 hxs
      obtain ⟨b', o2, p1, p2⟩ := q7 (by omega)
      subst p1 p2
      rcases hspare _ _ _ _ _ q4 with h | ⟨_, arr, et, h4, h5⟩
      · omega
      · have hnl := AS.len
        have hlen : (ys.length + xs.length) * i.size ≤ c0 * i.size := Nat.mul_le_mul_right _ hroom
        rw [Nat.add_mul] at hlen
        have hoc : (off + c0) * i.size ≤ C * i.size := Nat.mul_le_mul_right _ (by omega)
        rw [Nat.add_mul] at hoc
        have hoN : (off + ys.length) * i.size = ts.length * i.size := by rw [hn0]
        rw [Nat.add_mul] at hoN
        obtain ⟨w', r1, r2, r3⟩ := run_storeCells1 (P := P) (off := o2 + off * i.size + ys.length * i.size) news 0 w arr h4 (by omega) AS.one
        rw [Nat.add_zero] at r2
        have hrun := app_run (o := o) hc ha ht0 ho (by rw [e0]; exact AS.fit _ _ _ _ hroom (fun b hb => by cases hb; rw [add_addr]; exact r1) (fun h => by cases h))
        have l1 : o2 + off * i.size + ys.length * i.size + news.length ≤ arr.toList.length := by simp; omega
        -- what is written is what is claimed
        have hk : Keep (claim (ρ k) (.lst i.size ts 1)) w w' := by
          refine ⟨r3.os, r3.tape, r3.output, r3.size, fun b hb => ?_⟩
          by_cases eb : b = b'
          · subst eb
            refine .inr (.inl ⟨arr, _, et, (0, 0), h4, r2, by simp [putN_length _ _ _ (Or.inr l1)], fun j hj => ?_⟩)
            simp only [List.getElem?_toArray]
            rw [putN_get _ _ _ _ l1]
            split
            · rename_i hin
              exact (hj ⟨o2, none, ts.length, C, q4, by omega, by omega⟩).elim
            · simp
          · rcases r3.blk b hb with h | ⟨c1, c2, e3, f, g1, g2, g3, g4⟩ | ⟨h0, _⟩
            · exact .inl h
            · refine .inr (.inl ⟨c1, c2, e3, f, g1, g2, g3, fun j hj => g4 j eb⟩)
            · exact (eb h0).elim
        have hS : ∀ b o, S b o → S b o ∨ (b = b' ∧ o2 + ts.length * i.size ≤ o ∧ o < o2 + (ts.length + xs.length) * i.size) := fun _ _ h => .inl h
        have mono : ∀ c u, RelT S w c u → RelT (fun b o => S b o ∨ (b = b' ∧ o2 + ts.length * i.size ≤ o ∧ o < o2 + (ts.length + xs.length) * i.size)) w' c u := fun c u hcu => hcu.keep hS hk hS0 hr.mem.lt
        have hadd : (ts.length + xs.length) * i.size = ts.length * i.size + xs.length * i.size := Nat.add_mul _ _ _
        obtain ⟨ρ', h1, h2, h3⟩ := hr.hand (k := k) (k' := k') (blk2 := .lst i.size ts 2) (blk' := .lst i.size (ys ++ xs) 1) (w' := w') (S' := fun b o => S b o ∨ (b = b' ∧ o2 + ts.length * i.size ≤ o ∧ o < o2 + (ts.length + xs.length) * i.size))
          ⟨b', .slice (some ⟨b', o2 + off * i.size, none⟩) (ys ++ xs).length c0⟩ hl hf' hle2 hk hS
          (fun b o h => by
            rcases h with h | ⟨rfl, g1, g2⟩
            · exact .inl h
            · exact .inr (.inl ⟨o2, none, ts.length, C, q4, g1, by omega⟩)) hno
          (fun b o hc => by
            obtain ⟨o', sp, n, cap, e, g1, g2⟩ := hc
            simp only [Value.slice.injEq, Option.some.injEq, Addr.mk.injEq] at e
            obtain ⟨⟨rfl, rfl, _⟩, rfl, rfl⟩ := e
            rw [List.length_append, Nat.add_mul] at g1
            have hcl : claim (ρ k) (.lst i.size ts 1) b' o := ⟨o2, none, ts.length, C, q4, by omega, by omega⟩
            refine ⟨.inl hcl, fun hs => ?_⟩
            rcases hs with hs | hs
            · exact hS0 _ _ hcl hs
            · omega)
          (fun ρ' e1 e2 => by
            show RelT _ w' (.list i.size ts) (ρ' k).rv
            rw [e2 k _ hl]; exact mono _ _ hTrv)
          (fun ρ' e1 e2 => by
            refine ⟨?_, fun b o sp n cap hrv => ?_, fun n cap hrv => ?_⟩
            · rw [e1]
              obtain ⟨_, _, g2, u, g3, g4⟩ := hT.list_of
              refine .list i.size (ys ++ xs) _ c0 (fun q j => if q < ys.length then u q j else (news[(q - ys.length) * i.size + j]?).getD undef) (by rw [List.length_append]; exact hroom) (fun hne => ⟨b', o2 + off * i.size, rfl, fun q j hq hj => ?_⟩) hflat fun q x hx j c hc => ?_
              · by_cases hq2 : q < ys.length
                · simp only [if_pos hq2]
                  obtain ⟨b3, o3, e3, h3⟩ := g3 (fun hn => by subst hn; simp at hq2)
                  simp only [Option.some.injEq, Addr.mk.injEq] at e3
                  obtain ⟨rfl, rfl, _⟩ := e3
                  obtain ⟨k1, k2⟩ := h3 q j hq2 hj
                  exact ⟨.inl k1, by rw [hk.cell (fun hc => hS0 _ _ hc k1) (hr.mem.lt _ _ k1)]; exact k2⟩
                · simp only [if_neg hq2]
                  rw [List.length_append] at hq
                  have hb1 : (q - ys.length + 1) * i.size ≤ xs.length * i.size := Nat.mul_le_mul_right _ (by omega)
                  rw [Nat.add_mul] at hb1
                  have hge : ys.length * i.size ≤ q * i.size := Nat.mul_le_mul_right _ (by omega)
                  have hsub : (q - ys.length) * i.size = q * i.size - ys.length * i.size := Nat.sub_mul _ _ _
                  refine ⟨.inr ⟨by first | trivial | rfl, by omega, by omega⟩, ?_⟩
                  rw [cell_row r2]
                  simp only [List.getElem?_toArray]
                  rw [putN_get _ _ _ _ l1, if_pos (by omega)]
                  rw [show o2 + off * i.size + q * i.size + j - (o2 + off * i.size + ys.length * i.size) = (q - ys.length) * i.size + j by omega]
                  have hlt : (q - ys.length) * i.size + j < news.length := by omega
                  simp [hlt]
              · by_cases hq2 : q < ys.length
                · simp only [if_pos hq2]
                  rw [List.getElem?_append_left hq2] at hx
                  exact mono _ _ (g4 q x hx j c hc)
                · simp only [if_neg hq2]
                  rw [List.getElem?_append_right (by omega)] at hx
                  obtain ⟨u', k1, k2⟩ := AS.rel _ x j c hx hc
                  rw [k1]; exact mono _ _ k2
            · rw [e1] at hrv
              simp only [Value.slice.injEq, Option.some.injEq, Addr.mk.injEq] at hrv
              obtain ⟨⟨rfl, rfl, rfl⟩, rfl, rfl⟩ := hrv
              exact .inr ⟨rfl, _, et, r2, by simp [putN_length _ _ _ (Or.inr l1)]; omega⟩
            · rw [e1] at hrv; simp at hrv)
        refine ⟨_, _, _, _, ρ', w', _, h, h3, ?_, .inl hrun⟩
        have := sl_whole (S := fun b o => S b o ∨ (b = b' ∧ o2 + ts.length * i.size ≤ o ∧ o < o2 + (ts.length + xs.length) * i.size)) (w' := w') (ρ' := ρ') (k := k') (C := c0) (A := some ⟨b', o2 + off * i.size, none⟩) (m := 1) (sz := i.size) (ts := ys ++ xs) (own' := (k', .lst i.size (ys ++ xs) 1) :: upd k (.lst i.size ts 2) own) (by simp [look]) (by rw [h1]) (by rw [List.length_append]; exact hroom) (fun _ => ⟨_, _, rfl⟩)
        simpa using this
  · obtain ⟨_, _, olds, e2, _, ry⟩ := rdl_read (rdl_of_t hT) (.inr rfl) hsz
    obtain ⟨C2, arr, w', g1, g2, g3, g4, g5⟩ := grew (ty := o.type) (S := S) ht hi hz hzs hp e0 AS (e0 ▸ ry) (fun x hx => hflat x (by simp [hx])) (fun x hx => hflat x (by simp [hx])) (by omega) hfit2
    have hrun := app_run (o := o) hc ha ht0 ho g1
    subst g2
    have hk := keep_grew (w := w) (claim (ρ k) (.lst i.size ts 1)) (w.drawn + 1) (.cells arr e)
    have hS : ∀ b o, S b o → S b o ∨ (b = w.heap.size ∧ o < (ys ++ xs).length * i.size) := fun _ _ h => .inl h
    obtain ⟨ρ', h1, h2, h3⟩ := hr.hand (k := k) (k' := k') (blk2 := .lst i.size ts 2) (blk' := .lst i.size (ys ++ xs) 1) (S' := fun b o => S b o ∨ (b = w.heap.size ∧ o < (ys ++ xs).length * i.size)) ⟨w.heap.size, .slice (some ⟨w.heap.size, 0, none⟩) (ys ++ xs).length C2⟩ hl hf' hle2 hk hS
      (fun b o h => h.imp id fun h => .inr ⟨by omega, by simp; omega⟩) hno
      (fun b o hc => by
        obtain ⟨o', sp, m, cap, e1, g1, g2⟩ := hc
        simp only [Value.slice.injEq, Option.some.injEq, Addr.mk.injEq] at e1
        obtain ⟨⟨rfl, rfl, _⟩, rfl, rfl⟩ := e1
        refine ⟨.inr ⟨Nat.le_refl _, by simp⟩, fun hs => ?_⟩
        rcases hs with hs | hs
        · have := hr.mem.lt _ _ hs; omega
        · omega)
      (fun ρ' e1 e2 => by
        show RelT _ _ (.list i.size ts) (ρ' k).rv
        rw [e2 k _ hl]; exact hTrv.keep hS hk hS0 hr.mem.lt)
      (fun ρ' e1 e2 => relB_settled hS (fun o ho => .inr ⟨rfl, ho⟩) hr.mem.lt e1 hflat g3 g4 g5)
    exact ⟨_, _, _, _, ρ', _, _, h, h3, sl_whole (m := 1) (sz := i.size) (ts := ys ++ xs) (by simp [look]) (by rw [h1]) g3 (fun _ => ⟨_, _, rfl⟩), .inl hrun⟩

theorem op_appTo (hr : Rel Γ B S ρ ⟨tm, own⟩ a w) {x y : Operand} {c : Call} {t tu e : TypeId} {i : TypeInfo} {z : Value} {vx : V} (hx : RelV S w ρ own vx (a.eval x)) (hc : c.callee = .builtin .append) (ha : c.args = #[x, y]) (ht0 : c.argTypes = #[t, tu]) (ho : o.op = .call c)
    (ht : P.underlying t = some (.slice e)) (hi : P.info? e = some i) (hz : i.zero = some z) (hzs : z.cells.size = i.size) (hp : 0 < i.bytes) (hsz : 0 < i.size) {xs : List T} {news : List Value} (AS : ASrc P S w t tu o.type e i (a.eval y) xs news) {kb : Nat} (h : run dr (appTo kb i.size i.bytes vx xs) own log K) : Did P Γ B o a w tm K := by
  unfold appTo at h
  split at h
  · exact app_fresh hr hc ha ht0 ho ht hi hz hzs hp hsz (nils_of hx.t_of) AS h
  · obtain ⟨ad, e⟩ := ce_of hx
    exact app_fresh hr hc ha ht0 ho ht hi hz hzs hp hsz e AS h
  · rename_i sz' ys
    replace h := natP_elim h
    obtain ⟨hq, h⟩ := h
    rw [Nat.beq_eq] at hq; subst hq
    exact app_cl hr hc ha ht0 ho ht hi hz hzs hp hsz hx AS h
  · rename_i k off
    replace h := rd_elim h
    obtain ⟨b, hb, h⟩ := h
    split at h
    · rename_i sz' ts m
      replace h := natP_elim h
      obtain ⟨hq, h⟩ := h
      rw [Nat.beq_eq] at hq; subst hq
      replace h := req_elim h
      obtain ⟨hfit, h⟩ := h
      split at h
      · split at h
        · replace h := wr_elim h
          replace h := new_elim h
          obtain ⟨hf, h⟩ := h
          exact app_own hr hc ha ht0 ho ht hi hz hzs hp hsz hx hb AS hfit hf h
        · exact h.elim
      · replace h := wr_elim h
        replace h := new_elim h
        obtain ⟨hf, h⟩ := h
        exact app_spare hr hc ha ht0 ho ht hi hz hzs hp hsz hx hb AS hfit hf h
      · exact h.elim
    · exact h.elim
  · exact h.elim

theorem op_app (hr : Rel Γ B S ρ ⟨tm, own⟩ a w) {x y : Operand} {c : Call} {t tu e e2 : TypeId} {i : TypeInfo} {z : Value} {vx vy : V} (hx : RelV S w ρ own vx (a.eval x)) (hy : RelV S w ρ own vy (a.eval y)) (hc : c.callee = .builtin .append) (ha : c.args = #[x, y]) (ht0 : c.argTypes = #[t, tu]) (ho : o.op = .call c)
    (ht : P.underlying t = some (.slice e)) (hu : P.underlying tu = some (.slice e2)) (hi : P.info? e = some i) (hz : i.zero = some z) (hzs : z.cells.size = i.size) (hp : 0 < i.bytes) (hsz : 0 < i.size) {base key : Nat} {x' y' : Opd} (h : run dr (prog base (.app key i.size i.bytes x' y') [vx, vy]) own log K) : Did P Γ B o a w tm K := by
  simp only [prog] at h
  replace h := listP_elim hr hy h
  obtain ⟨sz, xs, log', h, hl⟩ := h
  replace h := req_elim h
  obtain ⟨hs, h⟩ := h
  obtain ⟨news, AS⟩ := asrc_rdl (ty := o.type) ht hu hi hl hs hsz
  exact op_appTo hr hx hc ha ht0 ho ht hi hz hzs hp hsz AS h
theorem op_appz (hr : Rel Γ B S ρ ⟨tm, own⟩ a w) {x y : Operand} {c : Call} {t tu e : TypeId} {i : TypeInfo} {z : T} {kn : IntKind} {vx vy : V} (hx : RelV S w ρ own vx (a.eval x)) (hy : RelV S w ρ own vy (a.eval y)) (hc : c.callee = .builtin .append) (ha : c.args = #[x, y]) (ht0 : c.argTypes = #[t, tu]) (ho : o.op = .call c)
    (ht : P.underlying t = some (.slice e)) (htn : P.underlying tu = some (.int kn)) (hi : P.info? e = some i) (hz : zeroT P e = some z) (hzs : z.cells.length = i.size) (hfl : z.one = true ∨ ∃ cs, z = .agg cs) (hz1 : ∀ c ∈ z.cells, c.one = true) (hp : 0 < i.bytes) (hsz : 0 < i.size) {base key : Nat} {x' y' : Opd}
    (h : run dr (prog base (.appz key i.size i.bytes z x' y') [vx, vy]) own log K) : Did P Γ B o a w tm K := by
  simp only [prog] at h
  replace h := intP_elim h
  obtain ⟨kk, n, rfl, h⟩ := h
  have e1 := RelT.int_of hy.t_of
  replace h := req_elim h
  obtain ⟨⟨q1, q2⟩, h⟩ := h
  obtain ⟨i', zv, g1, g2, g3⟩ := zeroT_spec hz
  rw [hi] at g1; cases g1
  have hm : maxBytes = 140737488355328 := rfl
  have hb1 : (1 : Int) ≤ i.bytes := by omega
  have hn : n ≤ 140737488355328 := by
    have : n * 1 ≤ n * (i.bytes : Int) := Int.mul_le_mul_of_nonneg_left hb1 q1
    rw [hm] at q2; omega
  obtain ⟨news, AS⟩ := asrc_zeros (S := S) (w := w) (ty := o.type) (k := kk) ht htn hi hz (by omega) hzs hfl hz1 q1 hn (by rw [hm] at q2; exact q2)
  rw [← e1] at AS
  obtain ⟨c1, c2⟩ := RelT.cells (g3 S w) hfl
  exact op_appTo hr hx hc ha ht0 ho ht hi g2 (by rw [c1, hzs]) hp hsz AS h
/-! ### copy, clear -/
theorem putL_len {ts xs : List T} {off : Nat} (h : off + xs.length ≤ ts.length) : (putL ts off xs).length = ts.length := by
  unfold putL; simp; omega
theorem putL_get {ts xs : List T} {off : Nat} (h : off + xs.length ≤ ts.length) (q : Nat) : (putL ts off xs)[q]? = if off ≤ q ∧ q < off + xs.length then xs[q - off]? else ts[q]? := by
  unfold putL
  have h1 : (ts.take off).length = off := by simp; omega
  by_cases hq : q < off
  · rw [if_neg (by omega), List.getElem?_append_left (by omega), List.getElem?_take, if_pos hq]
  · rw [List.getElem?_append_right (by omega), h1]
    by_cases hq2 : q < off + xs.length
    · rw [if_pos ⟨by omega, hq2⟩, List.getElem?_append_left (by omega)]
    · rw [if_neg (by omega), List.getElem?_append_right (by omega), List.getElem?_drop]
      congr 1; omega
theorem putL_nil {ts : List T} {off : Nat} : putL ts off [] = ts := by
  unfold putL; simp
theorem upd_same {k : Nat} {b : Blk} : ∀ {own : Own}, look k own = some b → upd k b own = own
  | [], h => by simp [look] at h
  | p :: r, h => by
    obtain ⟨j, c⟩ := p
    simp only [look] at h
    simp only [upd]
    split at h
    · rename_i e
      simp only [Option.some.injEq] at h
      subst h
      simp [e]
    · rename_i e
      simp only [e, if_false]
      rw [upd_same h]
/-- elements, put over those of an own list -/
theorem put_lst (hr : Rel Γ B S ρ ⟨tm, own⟩ a w) {k sz off : Nat} {len : Option Nat} {ts xs : List T} {v : Value} {news : List Value} (hl : look k own = some (.lst sz ts 0)) (hs : SlOk (ρ k).rv (.lst sz ts 0) off len v)
    (hle : xs.length ≤ (subL ts off len).length) (hne : xs ≠ []) (hnl : news.length = xs.length * sz)
    (hrel : ∀ (j : Nat) (x : T) (m : Nat) (c : T), xs[j]? = some x → x.cells[m]? = some c → ∃ u, news[j * sz + m]? = some u ∧ RelT S w c u) (hone : ∀ z ∈ news, vone z = true) (hflat : ∀ x ∈ xs, Flat sz x) :
    ∃ ad n c w', v = .slice (some ad) n c ∧ n = (subL ts off len).length ∧ (storeCells ad news).run P w = .ok () w' ∧ Rel Γ B S ρ ⟨tm, upd k (.lst sz (putL ts off xs) 0) own⟩ a w' := by
  have hpx : 0 < xs.length := List.length_pos_iff.2 hne
  obtain ⟨ad0, c0, e0, hnc, _, hle0, hget, _, A, C, q4, q5, q6, q7⟩ := sl_sub hs
  have hts : ts ≠ [] := fun h => by
    have : ts.length = 0 := by rw [h]; rfl
    omega
  obtain ⟨C', arr, et, k1, k2, k3, k4, k5, k6⟩ := lst0_cells hr hl hts
  rw [q4] at k1
  simp only [Value.slice.injEq] at k1
  obtain ⟨rfl, _, rfl⟩ := k1
  obtain ⟨b', o', p1, p2⟩ := q7 (by omega)
  simp only [Option.some.injEq, Addr.mk.injEq] at p1
  obtain ⟨rfl, rfl, _⟩ := p1
  rw [Nat.zero_add] at p2
  have hol : off + xs.length ≤ ts.length := by omega
  have hlen : (off + xs.length) * sz ≤ C * sz := Nat.mul_le_mul_right _ (by omega)
  rw [Nat.add_mul] at hlen
  obtain ⟨w', r1, r2, r3⟩ := run_storeCells1 (P := P) (off := off * sz) news 0 w arr k3 (by omega) hone
  rw [Nat.add_zero] at r2
  have l1 : off * sz + news.length ≤ arr.toList.length := by simp; omega
  refine ⟨⟨(ρ k).blk, off * sz, none⟩, _, c0, w', by rw [e0, p2], rfl, r1, ?_⟩
  have hfl : ∀ x ∈ putL ts off xs, Flat sz x := fun x hx => by
    obtain ⟨q, hq⟩ := List.mem_iff_getElem?.1 hx
    rw [putL_get hol] at hq
    split at hq
    · exact hflat x (List.mem_of_getElem? hq)
    · exact k5 x (List.mem_of_getElem? hq)
  refine turn_lst hr hl hts (putL_len hol) hfl r3 r2 (fun arr2 e2 h => ?_) fun q x j c hq hc => ?_
  · rw [k3] at h
    simp only [Option.some.injEq, Obj.cells.injEq] at h
    rw [← h.1]; simp [putN_length _ _ _ (Or.inr l1)]
  · have hj : j < sz := by
      rw [← (hfl x (List.mem_of_getElem? hq)).1]
      rcases Nat.lt_or_ge j x.cells.length with h | h
      · exact h
      · rw [List.getElem?_eq_none h] at hc; cases hc
    simp only [List.getElem?_toArray]
    rw [putN_get _ _ _ _ l1]
    rw [putL_get hol] at hq
    split at hq
    · rename_i hin
      obtain ⟨u, g1, g2⟩ := hrel (q - off) x j c hq hc
      have e3 : (q - off) * sz = q * sz - off * sz := Nat.sub_mul _ _ _
      have e4 : off * sz ≤ q * sz := Nat.mul_le_mul_right _ hin.1
      have e5 : (q - off + 1) * sz ≤ xs.length * sz := Nat.mul_le_mul_right _ (by omega)
      rw [Nat.add_mul] at e5
      refine ⟨u, ?_, g2⟩
      rw [if_pos (by omega), show q * sz + j - off * sz = (q - off) * sz + j by omega]
      exact g1
    · rename_i hin
      obtain ⟨u, g1, g2⟩ := k6 q x j c hq hc
      refine ⟨u, ?_, g2⟩
      have : ¬ (off * sz ≤ q * sz + j ∧ q * sz + j < off * sz + news.length) := by
        rintro ⟨h1, h2⟩
        apply hin
        constructor
        · rcases Nat.lt_or_ge q off with h | h
          · have : (q + 1) * sz ≤ off * sz := Nat.mul_le_mul_right _ h
            rw [Nat.add_mul] at this; omega
          · exact h
        · rcases Nat.lt_or_ge q (off + xs.length) with h | h
          · exact h
          · have : (off + xs.length) * sz ≤ q * sz := Nat.mul_le_mul_right _ h
            rw [Nat.add_mul] at this; omega
      rw [if_neg this]
      simpa using g1
theorem op_capn (hr : Rel Γ B S ρ ⟨tm, own⟩ a w) {x : Operand} {c : Call} {t e : TypeId} {v : V} (hx : RelV S w ρ own v (a.eval x)) (hc : c.callee = .builtin .cap) (ha : c.args = #[x]) (ht : c.argTypes = #[t])
    (hu : P.underlying t = some (.slice e)) (ho : o.op = .call c) {base : Nat} {x' : Opd} (h : run dr (prog base (.capn x') [v]) own log K) : Did P Γ B o a w tm K := by
  simp only [prog] at h
  split at h
  · have e1 := nils_of hx.t_of
    exact did_val h hr (u := .int .i64 0) (.t _ _ (.int _ _)) (by simp [execOp, ho, resolve, hc, ha, ht, invoke, builtin, Builtin.cap_, underlying, hu, e1, goInt])
  · obtain ⟨ad, e1⟩ := ce_of hx
    exact did_val h hr (u := .int .i64 0) (.t _ _ (.int _ _)) (by simp [execOp, ho, resolve, hc, ha, ht, invoke, builtin, Builtin.cap_, underlying, hu, e1, goInt])
  · exact h.elim
theorem op_clr (hr : Rel Γ B S ρ ⟨tm, own⟩ a w) {x : Operand} {c : Call} {t e : TypeId} {i : TypeInfo} {z : T} {v : V} (hx : RelV S w ρ own v (a.eval x)) (hc : c.callee = .builtin .clear) (ha : c.args = #[x]) (ht : c.argTypes = #[t])
    (hu : P.underlying t = some (.slice e)) (hi : P.info? e = some i) (hz : zeroT P e = some z) (h0 : i.size ≠ 0) (hzs : z.cells.length = i.size) (hfl : z.one = true ∨ ∃ cs, z = .agg cs) (hz1 : ∀ c ∈ z.cells, c.one = true)
    (ho : o.op = .call c) {base : Nat} {x' : Opd} (h : run dr (prog base (.clr i.size z x') [v]) own log K) : Did P Γ B o a w tm K := by
  have none : a.eval x = .slice none 0 0 ∨ (∃ ad, a.eval x = .slice (some ad) 0 0) → (execOp a.eval o).run P w = .ok (.value (.tuple #[])) w := fun h => by
    rcases h with h | ⟨ad, h⟩ <;> simp [execOp, ho, resolve, hc, ha, ht, invoke, builtin, Builtin.clear_, underlying, hu, h]
  simp only [prog] at h
  split at h
  · exact did_val h hr rel_undef (none (.inl (nils_of hx.t_of)))
  · exact did_val h hr rel_undef (none (.inr (ce_of hx)))
  · rename_i k off len
    replace h := rd_elim h
    obtain ⟨b, hb, h⟩ := h
    split at h
    · rename_i sz' ts m
      split at h
      · replace h := natP_elim h
        obtain ⟨hq, h⟩ := h
        rw [Nat.beq_eq] at hq; subst hq
        replace h := wr_elim h
        have hs := sl_of hx hb
        obtain ⟨ad0, c0, e0, hnc, hn0, hle0, _⟩ := sl_sub hs
        rw [← hn0] at h
        rw [Int.toNat_natCast] at h
        generalize hnn : (subL ts off len).length = n at *
        obtain ⟨i', zv, g1, g2, g3⟩ := zeroT_spec hz
        rw [hi] at g1; cases g1
        obtain ⟨c1, c2⟩ := RelT.cells (g3 S w) hfl
        by_cases hn : n = 0
        · subst hn
          rw [List.replicate_zero, putL_nil, upd_same hb] at h
          refine did_val h hr rel_undef ?_
          cases ad0 <;> simp [execOp, ho, resolve, hc, ha, ht, invoke, builtin, Builtin.clear_, underlying, hu, e0] <;> rfl
        · have hp : 0 < i.size := by omega
          obtain ⟨ad, n', c', w', q1, q2, q3, q4⟩ := put_lst (P := P) (xs := List.replicate n z) (news := (Builtin.zeroCells zv.cells n).toList) hr hb hs (by simp [hnn]) (by simp [hn]) (by simp [zeroCells_size, c1, hzs])
            (fun j x m c hx hc => by
              rw [List.getElem?_replicate] at hx
              split at hx
              · rename_i hj
                cases hx
                have hm : m < z.cells.length := by
                  rcases Nat.lt_or_ge m z.cells.length with h | h
                  · exact h
                  · rw [List.getElem?_eq_none h] at hc; cases hc
                have hlt : j * i.size + m < n * zv.cells.size := by
                  have : (j + 1) * i.size ≤ n * i.size := Nat.mul_le_mul_right _ (by omega)
                  rw [Nat.add_mul] at this; rw [c1, hzs]; omega
                have hm2 : m < zv.cells.size := by omega
                have e3 : zv.cells[m]? = some zv.cells[m] := by simp [hm2]
                have e4 : (j * i.size + m) % zv.cells.size = m := by
                  rw [show i.size = zv.cells.size by rw [c1, hzs], Nat.mul_comm, Nat.mul_add_mod]
                  exact Nat.mod_eq_of_lt hm2
                refine ⟨zv.cells[m], ?_, c2 m c _ hc e3⟩
                simp [Builtin.zeroCells, hlt, e4, hm2]
              · cases hx)
            (fun y hy => by
              simp only [Builtin.zeroCells, Array.toList_map, Array.toList_range, List.mem_map, List.mem_range] at hy
              obtain ⟨q, hq, rfl⟩ := hy
              have hp : 0 < zv.cells.size := by rw [c1, hzs]; omega
              have hm2 : q % zv.cells.size < zv.cells.size := Nat.mod_lt _ hp
              have hm3 : q % zv.cells.size < z.cells.length := by omega
              have e3 : zv.cells[q % zv.cells.size]? = some zv.cells[q % zv.cells.size] := by simp [hm2]
              have e4 : z.cells[q % zv.cells.size]? = some z.cells[q % zv.cells.size] := by simp [hm3]
              have := ((c2 _ _ _ e4 e3).one (hz1 _ (List.mem_of_getElem? e4))).1
              rw [getElem!_pos zv.cells _ hm2]
              exact this)
            (fun x hx => by rw [List.eq_of_mem_replicate hx]; exact ⟨hzs, hz1⟩)
          have hn' : n' ≠ 0 := by omega
          rw [e0] at q1
          simp only [Value.slice.injEq] at q1
          obtain ⟨rfl, rfl, rfl⟩ := q1
          refine ⟨_, _, _, S, ρ, w', .tuple #[], h, q4, rel_undef, .inl ?_⟩
          obtain ⟨n2, rfl⟩ : ∃ n2, n = n2 + 1 := ⟨n - 1, by omega⟩
          simp [execOp, ho, resolve, hc, ha, ht, invoke, builtin, Builtin.clear_, underlying, hu, e0, zeroValue, typeInfo, hi, g2, q3]
      · exact h.elim
    · exact h.elim
  · exact h.elim
theorem rdl_take {sz n cap : Nat} {xs : List T} {v : Value} {ad : Option Addr} (h : Rdl S w sz xs v) (e : v = .slice ad xs.length cap) : Rdl S w sz (xs.take n) (.slice ad (xs.take n).length cap) := by
  obtain ⟨⟨ad', cap', e1, hc, u, h1, h2⟩, h3⟩ := h
  rw [e] at e1
  simp only [Value.slice.injEq] at e1
  obtain ⟨rfl, _, rfl⟩ := e1
  have hle : (xs.take n).length ≤ xs.length := by simp; omega
  refine ⟨⟨ad, cap, rfl, by omega, u, fun hne => ?_, fun i x hx => ?_⟩, fun x hx => h3 x (List.mem_of_mem_take hx)⟩
  · obtain ⟨b, o, e2, g⟩ := h1 (fun hn => by subst hn; simp at hne)
    exact ⟨b, o, e2, fun i j hi hj => g i j (by omega) hj⟩
  · rw [List.getElem?_take] at hx
    split at hx
    · exact h2 i x hx
    · cases hx
theorem op_cpy (hr : Rel Γ B S ρ ⟨tm, own⟩ a w) {x y : Operand} {c : Call} {t tu e : TypeId} {i : TypeInfo} {vx vy : V} (hx : RelV S w ρ own vx (a.eval x)) (hy : RelV S w ρ own vy (a.eval y)) (hc : c.callee = .builtin .copy) (ha : c.args = #[x, y]) (ht : c.argTypes = #[t, tu])
    (hu : P.underlying t = some (.slice e)) (hi : P.info? e = some i) (h0 : i.size ≠ 0) (ho : o.op = .call c) {base : Nat} {x' y' : Opd} (h : run dr (prog base (.cpy i.size x' y') [vx, vy]) own log K) : Did P Γ B o a w tm K := by
  simp only [prog] at h
  replace h := listP_elim hr hy h
  obtain ⟨sz, xs, log', h, hl⟩ := h
  obtain ⟨ad, cap, ee, hcap, _⟩ := hl.ex
  have none : a.eval x = .slice none 0 0 ∨ (∃ ad, a.eval x = .slice (some ad) 0 0) → (execOp a.eval o).run P w = .ok (.value (.int .i64 0)) w := fun h => by
    have hf : (Builtin.firstCells i.size 0 (.slice ad xs.length cap)).run P w = .ok #[] w := by
      cases ad with
      | none => simp [Builtin.firstCells]
      | some ad => simpa using run_firstCells_some (P := P) w i.size 0 ad xs.length cap [] (by simp) (fun j v hv => by simp at hv)
    rcases h with h | ⟨ad', h⟩ <;> simp [execOp, ho, resolve, hc, ha, ht, invoke, builtin, Builtin.copy_, underlying, hu, h, ee, Builtin.lenOf, sizeOf, typeInfo, hi, hf, goInt, storeCells]
  split at h
  · exact did_val h hr (.t _ _ (.int _ _)) (none (.inl (nils_of hx.t_of)))
  · exact did_val h hr (.t _ _ (.int _ _)) (none (.inr (ce_of hx)))
  · rename_i k off len
    replace h := rd_elim h
    obtain ⟨b, hb, h⟩ := h
    split at h
    · rename_i sz' ts m
      split at h
      · replace h := natP_elim h
        obtain ⟨hq, h⟩ := h
        rw [Nat.beq_eq] at hq; subst hq
        replace h := req_elim h
        obtain ⟨hsz, h⟩ := h
        replace h := wr_elim h
        have hs := sl_of hx hb
        obtain ⟨ad0, c0, e0, hnc, hn0, hle0, _⟩ := sl_sub hs
        rw [← hn0] at h
        rw [Int.toNat_natCast] at h
        have hmin : minI (xs.length : Int) ((subL ts off len).length : Int) = ((Nat.min xs.length (subL ts off len).length : Nat) : Int) := by
          rw [minI_def]; show _ = ((min xs.length (subL ts off len).length : Nat) : Int); rw [Nat.min_def]; split <;> split <;> omega
        rw [hmin] at h
        generalize hnn : (subL ts off len).length = dn at *
        have hl2 := rdl_take hl (n := dn) ee
        obtain ⟨ad', cap', news, e3, hcap', rx⟩ := rdl_read (size := i.size) hl2 (hsz.imp (fun h => by rw [h]; simp) id) (by omega)
        simp only [Value.slice.injEq] at e3
        obtain ⟨rfl, _, rfl⟩ := e3
        have htl : (xs.take dn).length = Nat.min xs.length dn := by rw [List.length_take]; exact Nat.min_comm _ _
        have hrd : (Builtin.firstCells i.size (Nat.min xs.length dn) (.slice ad xs.length cap)).run P w = .ok news.toArray w := by
          have := rx.run P w (fun _ => rfl)
          rw [htl] at this
          cases ad <;> exact this
        by_cases hn : xs.take dn = []
        · rw [hn, putL_nil, upd_same hb] at h
          have hn0 : Nat.min xs.length dn = 0 := by rw [← htl, hn]; rfl
          have hne : news = [] := List.eq_nil_of_length_eq_zero (by rw [rx.len, hn]; simp)
          rw [hn0] at hrd h
          subst hne
          refine did_val h hr (.t _ _ (.int _ _)) ?_
          have hn1 : min xs.length dn = 0 := hn0
          cases ad0 <;> simp [execOp, ho, resolve, hc, ha, ht, invoke, builtin, Builtin.copy_, underlying, hu, e0, ee, Builtin.lenOf, sizeOf, typeInfo, hi, hn0, hrd, goInt, storeCells]
        · have hfl : ∀ x ∈ xs.take dn, Flat i.size x := fun x hx => by
            rcases hsz with h | h
            · subst h; simp at hn
            · rw [← h]; exact hl.sz x (List.mem_of_mem_take hx)
          obtain ⟨ad2, n', c', w', q1, q2, q3, q4⟩ := put_lst (P := P) (xs := xs.take dn) (news := news) hr hb hs (by rw [hnn, htl]; exact Nat.min_le_right _ _) hn rx.len rx.rel rx.one hfl
          rw [e0] at q1
          simp only [Value.slice.injEq] at q1
          obtain ⟨rfl, rfl, rfl⟩ := q1
          refine ⟨_, _, _, S, ρ, w', .int .i64 ((Nat.min xs.length dn : Nat) : Int), h, q4, .t _ _ (.int _ _), .inl ?_⟩
          simp [execOp, ho, resolve, hc, ha, ht, invoke, builtin, Builtin.copy_, underlying, hu, e0, ee, Builtin.lenOf, sizeOf, typeInfo, hi, hrd, q3, goInt]
      · exact h.elim
    · exact h.elim
  · exact h.elim
end
end Go.Nx
