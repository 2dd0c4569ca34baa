/-
  APPEND, WHATEVER IT IS TO.
-/
import Derived.Test.YtpmpkcjcjccboaaDoorXn
set_option linter.unusedVariables false
set_option linter.unusedSimpArgs false
namespace Go.Nx
open Go.RowKit

section
variable {P : Program} {Γ : Env} {B : Base} {S : Cells} {ρ : Infos} {tm : List V} {own : Own} {a : Act} {w : World}
variable {o : Oper} {K : V → Own → Log → Prop} {log : Log} {dr : Bool}

theorem read_nil {size : Nat} {base : Option Addr} {c : Nat} : Read S w size [] (.slice base 0 c) [] := by
  refine ⟨by simp, fun P w' hw => ?_, fun i x j c hx => by simp at hx, fun z hz => by simp at hz⟩
  cases base with
  | none => simp [Builtin.firstCells]
  | some ad => simpa using run_firstCells_some (P := P) w' size 0 ad 0 c [] (by simp) (fun j v hv => by simp at hv)
theorem stC_nil {ad : Addr} : (storeCells ad []).run P w = .ok () w := by simp [storeCells]

/-- onto what has no room -/
theorem app_fresh (hr : Rel Γ B S ρ ⟨tm, own⟩ a w) {x y : Operand} {c : Call} {t tu e : TypeId} {i : TypeInfo} {z : Value} (hc : c.callee = .builtin .append) (ha : c.args = #[x, y]) (ht0 : c.argTypes = #[t, tu]) (ho : o.op = .call c)
    (ht : P.underlying t = some (.slice e)) (hi : P.info? e = some i) (hz : i.zero = some z) (hzs : z.cells.size = i.size) (hp : 0 < i.bytes) (hsz : 0 < i.size) {base : Option Addr} (hx : a.eval x = .slice base 0 0)
    {xs : List T} {news : List Value} (AS : ASrc P S w t tu o.type e i (a.eval y) xs news) {k : Nat} (h : run dr (.req (xs.length * i.bytes ≤ maxBytes) (.new k (.lst i.size xs 0) (.ret (.sl k 0 none)))) own log K) : Did P Γ B o a w tm K := by
  replace h := req_elim h
  obtain ⟨hb, h⟩ := h
  replace h := new_elim h
  obtain ⟨hf, h⟩ := h
  by_cases hxs : xs = []
  · subst hxs
    have hn : news = [] := List.eq_nil_of_length_eq_zero (by simpa using AS.len)
    subst hn
    have hrun := app_run (o := o) hc ha ht0 ho (by rw [hx]; exact AS.fit _ _ _ _ (Nat.le_refl 0) (fun b hb => stC_nil) (fun _ => rfl))
    obtain ⟨ρ', h1, h2⟩ := hr.grow (k := k) (blk := .lst i.size [] 0) (w' := w) (S' := S) ⟨0, .slice base 0 0⟩ hf (.refl _ w) (fun _ _ h => h) (fun _ _ h => .inl h)
      (fun b o hc => by
        obtain ⟨_, _, _, c, e, hne⟩ := hc
        simp only [Value.slice.injEq] at e
        exact (hne e.2.2.symm).elim)
      (fun ρ' e1 e2 => ⟨fun x hx => by simp at hx, base, 0, by rw [e1]; rfl, Nat.le_refl _, .inl rfl⟩)
    exact ⟨_, _, _, S, ρ', w, _, h, h2, sl_whole (C := 0) (A := base) (m := 0) (sz := i.size) (ts := []) (by simp [look]) (by rw [h1]; rfl) (Nat.le_refl _) (fun h => by omega), .inl hrun⟩
  · have hpos : 0 < xs.length := List.length_pos_iff.2 hxs
    have hflat : ∀ x ∈ xs, Flat i.size x := fun x hx => by
      exact AS.flat x hx
    obtain ⟨C, arr, w', g1, g2, g3, g4, g5⟩ := grew (ty := o.type) (S := S) ht hi hz hzs hp (ys := []) (xs := xs) hx AS (hx ▸ read_nil) (fun x hx => by simp at hx) hflat (by simpa using hpos) (by simpa using hb)
    simp only [List.nil_append] at g1 g3 g5
    have hrun := app_run (o := o) hc ha ht0 ho g1
    subst g2
    obtain ⟨ρ', h1, h2⟩ := new_grown (n := w.drawn + 1) (e := e) hr hf hflat g3 g4 g5
    exact ⟨_, _, _, S, ρ', _, _, h, h2, sl_whole (m := 0) (sz := i.size) (ts := xs) (by simp [look]) (by rw [h1]) g3 (fun _ => ⟨_, _, rfl⟩), .inl hrun⟩

/-- onto a list whose capacity is its length -/
theorem app_cl (hr : Rel Γ B S ρ ⟨tm, own⟩ a w) {x y : Operand} {c : Call} {t tu e : TypeId} {i : TypeInfo} {z : Value} (hc : c.callee = .builtin .append) (ha : c.args = #[x, y]) (ht0 : c.argTypes = #[t, tu]) (ho : o.op = .call c)
    (ht : P.underlying t = some (.slice e)) (hi : P.info? e = some i) (hz : i.zero = some z) (hzs : z.cells.size = i.size) (hp : 0 < i.bytes) (hsz : 0 < i.size) {ys : List T} (hx : RelV S w ρ own (.cl i.size ys) (a.eval x))
    {xs : List T} {news : List Value} (AS : ASrc P S w t tu o.type e i (a.eval y) xs news) {k : Nat} (h : run dr (.req ((ys.length + xs.length) * i.bytes ≤ maxBytes) (.new k (.lst i.size (ys ++ xs) 1) (.ret (.sl k 0 none)))) own log K) : Did P Γ B o a w tm K := by
  replace h := req_elim h
  obtain ⟨hb, h⟩ := h
  replace h := new_elim h
  obtain ⟨hf, h⟩ := h
  obtain ⟨hT, base, hbase⟩ := cl_of hx
  by_cases hxs : xs = []
  · subst hxs
    have hn : news = [] := List.eq_nil_of_length_eq_zero (by simpa using AS.len)
    subst hn
    have hrun := app_run (o := o) hc ha ht0 ho (by rw [hbase]; exact AS.fit _ _ _ _ (by simp) (fun b hb => stC_nil) (fun _ => rfl))
    rw [hbase] at hT
    obtain ⟨ρ', h1, h2⟩ := hr.grow (k := k) (blk := .lst i.size (ys ++ []) 1) (w' := w) (S' := S) ⟨0, .slice base ys.length ys.length⟩ hf (.refl _ w) (fun _ _ h => h) (fun _ _ h => .inl h)
      (fun b o hc => by
        obtain ⟨o', sp, n, cap, e, g1, g2⟩ := hc
        simp only [Value.slice.injEq] at e
        obtain ⟨_, rfl, rfl⟩ := e
        omega)
      (fun ρ' e1 e2 => by
        refine ⟨by rw [e1]; simpa using hT, fun b o sp n cap hrv => ?_, fun n cap hrv => ?_⟩
        · rw [e1] at hrv; simp only [Value.slice.injEq] at hrv; exact .inl (by rw [← hrv.2.1, ← hrv.2.2])
        · rw [e1] at hrv
          simp only [Value.slice.injEq] at hrv
          obtain ⟨e3, _, rfl⟩ := hrv
          obtain ⟨_, _, _, u, g3, _⟩ := hT.list_of
          by_cases hn : ys = []
          · subst hn; rfl
          · obtain ⟨b, o, e4, _⟩ := g3 hn
            rw [e3] at e4; cases e4)
    refine ⟨_, _, _, S, ρ', w, _, h, h2, ?_, .inl hrun⟩
    have hA : 0 < ys.length → ∃ b o, base = some ⟨b, o, none⟩ := fun hl => by
      obtain ⟨_, _, _, u, g3, _⟩ := hT.list_of
      obtain ⟨b, o, e4, _⟩ := g3 (List.length_pos_iff.1 hl)
      exact ⟨b, o, e4⟩
    have := sl_whole (S := S) (w' := w) (ρ' := ρ') (C := ys.length) (A := base) (m := 1) (sz := i.size) (ts := ys ++ []) (own' := (k, .lst i.size (ys ++ []) 1) :: own) (k := k) (by simp [look]) (by rw [h1]; simp) (by simp) hA
    simpa using this
  · have hpos : 0 < xs.length := List.length_pos_iff.2 hxs
    obtain ⟨_, _, olds, e2, _, ry⟩ := rdl_read (rdl_of_t hT) (.inr rfl) hsz
    have hflat : ∀ x ∈ ys ++ xs, Flat i.size x := fun x hx => by
      rcases List.mem_append.1 hx with hx | hx
      · exact (rdl_of_t hT).sz x hx
      · exact AS.flat x hx
    obtain ⟨C, arr, w', g1, g2, g3, g4, g5⟩ := grew (ty := o.type) (S := S) ht hi hz hzs hp hbase AS ry (fun x hx => hflat x (by simp [hx])) (fun x hx => hflat x (by simp [hx])) (by omega) hb
    have hrun := app_run (o := o) hc ha ht0 ho g1
    subst g2
    obtain ⟨ρ', S', h1, h2⟩ := new_settled (n := w.drawn + 1) (e := e) hr hf hflat g3 g4 g5
    exact ⟨_, _, _, S', ρ', _, _, h, h2, sl_whole (m := 1) (sz := i.size) (ts := ys ++ xs) (by simp [look]) (by rw [h1]) g3 (fun _ => ⟨_, _, rfl⟩), .inl hrun⟩

/-- onto an own list that may be written -/
theorem app_own (hr : Rel Γ B S ρ ⟨tm, own⟩ a w) {x y : Operand} {c : Call} {t tu e : TypeId} {i : TypeInfo} {z : Value} (hc : c.callee = .builtin .append) (ha : c.args = #[x, y]) (ht0 : c.argTypes = #[t, tu]) (ho : o.op = .call c)
    (ht : P.underlying t = some (.slice e)) (hi : P.info? e = some i) (hz : i.zero = some z) (hzs : z.cells.size = i.size) (hp : 0 < i.bytes) (hsz : 0 < i.size) {k : Nat} {ts : List T} (hx : RelV S w ρ own (.sl k 0 none) (a.eval x)) (hl : look k own = some (.lst i.size ts 0))
    {xs : List T} {news : List Value} (AS : ASrc P S w t tu o.type e i (a.eval y) xs news) {k' : Nat} (hfit : (ts.length + xs.length) * i.bytes ≤ maxBytes) (hf : look k' (upd k .gone own) = none) (h : K (.sl k' 0 none) ((k', .lst i.size (ts ++ xs) 0) :: upd k .gone own) log) : Did P Γ B o a w tm K := by
  have hf' : look k' own = none := by
    rw [look_upd hl] at hf
    split at hf
    · cases hf
    · exact hf
  have hs0 := sl_of hx hl
  have hs1 := hs0
  obtain ⟨a0, n0, c0, e0, hnc, q1, q2, q3, A, C, q4, q5, q6, q7⟩ := hs0
  have hB := hr.mem.blk k _ hl
  obtain ⟨hflt, A', C', k1, k2, k3⟩ := hB
  rw [q4] at k1
  simp only [Value.slice.injEq] at k1
  obtain ⟨rfl, _, rfl⟩ := k1
  have hn0 := q2 rfl
  have hc0 := q5 rfl
  simp only [Nat.sub_zero] at hn0 hc0
  subst hn0 hc0
  have hflat : ∀ x ∈ ts ++ xs, Flat i.size x := fun x hx => by
    rcases List.mem_append.1 hx with hx | hx
    · exact hflt x hx
    · exact AS.flat x hx
  have hgone : ∀ b o, ¬ claim (ρ k) Blk.gone b o := fun b o h => h
  by_cases hroom : ts.length + xs.length ≤ c0
  · -- in place
    by_cases hC : c0 = 0
    · subst hC
      have ht0' : ts = [] := List.eq_nil_of_length_eq_zero (by omega)
      have hx0 : xs = [] := List.eq_nil_of_length_eq_zero (by omega)
      subst ht0' hx0
      have hn : news = [] := List.eq_nil_of_length_eq_zero (by simpa using AS.len)
      subst hn
      have hrun := app_run (o := o) hc ha ht0 ho (by rw [e0]; exact AS.fit _ _ _ _ (by simp) (fun b hb => stC_nil) (fun _ => rfl))
      obtain ⟨ρ', h1, h2, h3⟩ := hr.hand (k := k) (k' := k') (blk2 := .gone) (blk' := .lst i.size ([] ++ []) 0) (w' := w) (S' := S) ⟨0, .slice a0 0 0⟩ hl hf' (Ble.gone _) (.refl _ w) (fun _ _ h => h) (fun _ _ h => .inl h) hgone
        (fun b o hc => by
          obtain ⟨_, _, _, c, e, hne⟩ := hc
          simp only [Value.slice.injEq] at e
          exact (hne e.2.2.symm).elim)
        (fun _ _ _ => trivial) (fun ρ' e1 e2 => ⟨fun x hx => by simp at hx, a0, 0, by rw [e1]; rfl, by simp, .inl rfl⟩)
      exact ⟨_, _, _, S, ρ', w, _, h, h3, sl_whole (C := 0) (A := a0) (m := 0) (sz := i.size) (ts := []) (by simp [look]) (by rw [h1]; rfl) (Nat.le_refl _) (fun h => by omega), .inl hrun⟩
    · rcases k3 with k3 | ⟨k3, arr, et, k4, k5, k6⟩
      · exact (hC k3).elim
      · subst k3
        obtain ⟨b', o', p1, p2⟩ := q7 (by omega)
        simp only [Option.some.injEq, Addr.mk.injEq] at p1
        obtain ⟨rfl, rfl, _⟩ := p1
        simp only [Nat.zero_mul, Nat.add_zero] at p2
        subst p2
        have hlen : (ts.length + xs.length) * i.size ≤ c0 * i.size := Nat.mul_le_mul_right _ hroom
        rw [Nat.add_mul] at hlen
        have hnl := AS.len
        obtain ⟨w', r1, r2, r3⟩ := run_storeCells1 (P := P) (off := ts.length * i.size) news 0 w arr k4 (by omega) AS.one
        rw [Nat.add_zero] at r2
        have hrun := app_run (o := o) hc ha ht0 ho (by rw [e0]; exact AS.fit _ _ _ _ hroom (fun b hb => by cases hb; rw [add_addr, Nat.zero_add]; exact r1) (fun h => by cases h))
        have hcl : claim (ρ k) (.lst i.size ts 0) = fun b _ => b = (ρ k).blk := by
          funext b o
          apply propext
          exact ⟨fun h => h.1, fun h => ⟨h, _, _, _, q4, hC⟩⟩
        have hS : ∀ b o, claim (ρ k) (.lst i.size ts 0) b o → ¬ S b o := fun b o hc hs => (hr.mem.cl k _ hl b o hc).2 hs
        have l1 : ts.length * i.size + news.length ≤ arr.toList.length := by simp; omega
        obtain ⟨ρ', h1, h2, h3⟩ := hr.hand (k := k) (k' := k') (blk2 := .gone) (blk' := .lst i.size (ts ++ xs) 0) (w' := w') (S' := S) ⟨(ρ k).blk, .slice (some ⟨(ρ k).blk, 0, none⟩) (ts ++ xs).length c0⟩ hl hf' (Ble.gone _) (by rw [hcl]; exact r3) (fun _ _ h => h) (fun _ _ h => .inl h) hgone
          (fun b o hc => by
            have : claim (ρ k) (.lst i.size ts 0) b o := by rw [hcl]; exact hc.1
            exact ⟨.inl this, hS b o this⟩)
          (fun _ _ _ => trivial)
          (fun ρ' e1 e2 => by
            refine ⟨hflat, _, c0, by rw [e1], by rw [List.length_append]; exact hroom, .inr ⟨by rw [e1], _, et, by rw [e1]; exact r2, by simp [putN_length _ _ _ (Or.inr l1)]; exact k5, fun q x j c hq hc => ?_⟩⟩
            have mono : ∀ c u, RelT S w c u → RelT S w' c u := fun c u hcu => hcu.keep (fun _ _ h => h) r3 (fun b o hb hs => hS b o (by rw [hcl]; exact hb) hs) hr.mem.lt
            simp only [List.getElem?_toArray]
            rw [putN_get _ _ _ _ l1]
            have hj : j < i.size := by
              rw [← (hflat x (List.mem_of_getElem? hq)).1]
              rcases Nat.lt_or_ge j x.cells.length with h | h
              · exact h
              · rw [List.getElem?_eq_none h] at hc; cases hc
            by_cases hi2 : q < ts.length
            · rw [List.getElem?_append_left hi2] at hq
              obtain ⟨u, g1, g2⟩ := k6 q x j c hq hc
              refine ⟨u, ?_, mono _ _ g2⟩
              have : (q + 1) * i.size ≤ ts.length * i.size := Nat.mul_le_mul_right _ hi2
              rw [Nat.add_mul] at this
              rw [if_neg (by omega)]
              simpa using g1
            · rw [List.getElem?_append_right (by omega)] at hq
              obtain ⟨u, g1, g2⟩ := AS.rel _ x j c hq hc
              refine ⟨u, ?_, mono _ _ g2⟩
              have hge : ts.length * i.size ≤ q * i.size := Nat.mul_le_mul_right _ (by omega)
              have hlt : (q - ts.length) * i.size + j < news.length := by
                rcases Nat.lt_or_ge ((q - ts.length) * i.size + j) news.length with h | h
                · exact h
                · rw [List.getElem?_eq_none h] at g1; cases g1
              rw [Nat.sub_mul] at g1 hlt
              rw [if_pos (by omega)]
              rw [show q * i.size + j - ts.length * i.size = q * i.size - ts.length * i.size + j by omega]
              exact g1)
        refine ⟨_, _, _, S, ρ', w', _, h, h3, ?_, .inl hrun⟩
        have := sl_whole (S := S) (w' := w') (ρ' := ρ') (k := k') (C := c0) (A := some ⟨(ρ k).blk, 0, none⟩) (m := 0) (sz := i.size) (ts := ts ++ xs) (own' := (k', .lst i.size (ts ++ xs) 0) :: upd k .gone own) (by simp [look]) (by rw [h1]) (by rw [List.length_append]; exact hroom) (fun _ => ⟨_, _, rfl⟩)
        simpa using this
  · -- a new row
    obtain ⟨_, _, olds, e2, _, ry⟩ := rdl_read (lst0_sub hr hl hs1) (.inr rfl) hsz
    have hsub : subL ts 0 none = ts := rfl
    rw [hsub] at ry
    obtain ⟨C2, arr, w', g1, g2, g3, g4, g5⟩ := grew (ty := o.type) (S := S) ht hi hz hzs hp e0 AS ry (fun x hx => hflat x (by simp [hx])) (fun x hx => hflat x (by simp [hx])) (by omega) hfit
    have hrun := app_run (o := o) hc ha ht0 ho g1
    subst g2
    have hk := keep_grew (w := w) (claim (ρ k) (.lst i.size ts 0)) (w.drawn + 1) (.cells arr e)
    have hk0 := keep_grew (w := w) (fun _ _ => False) (w.drawn + 1) (.cells arr e)
    obtain ⟨ρ', h1, h2, h3⟩ := hr.hand (k := k) (k' := k') (blk2 := .gone) (blk' := .lst i.size (ts ++ xs) 0) (S' := S) ⟨w.heap.size, .slice (some ⟨w.heap.size, 0, none⟩) (ts ++ xs).length C2⟩ hl hf' (Ble.gone _) hk (fun _ _ h => h) (fun _ _ h => .inl h) hgone
      (fun b o hc => by
        have hc' : b = w.heap.size := hc.1
        subst hc'
        exact ⟨.inr ⟨Nat.le_refl _, by simp⟩, fun hs => by have := hr.mem.lt _ _ hs; omega⟩)
      (fun _ _ _ => trivial)
      (fun ρ' e1 e2 => by
        refine ⟨hflat, _, C2, by rw [e1], g3, .inr ⟨by rw [e1], arr, e, by rw [e1]; simp, g4, fun q x j c hq hc => ?_⟩⟩
        obtain ⟨v, p1, p2⟩ := g5 q x j c hq hc
        exact ⟨v, p1, p2.keep (fun _ _ h => h) hk0 (fun _ _ h => h.elim) hr.mem.lt⟩)
    exact ⟨_, _, _, S, ρ', _, _, h, h3, sl_whole (m := 0) (sz := i.size) (ts := ts ++ xs) (by simp [look]) (by rw [h1]) g3 (fun _ => ⟨_, _, rfl⟩), .inl hrun⟩
end
end Go.Nx
