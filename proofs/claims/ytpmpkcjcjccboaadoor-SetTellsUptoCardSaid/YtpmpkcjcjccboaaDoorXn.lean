/-
  APPEND.
-/
import Derived.Test.YtpmpkcjcjccboaaDoorXm
set_option linter.unusedVariables false
set_option linter.unusedSimpArgs false
namespace Go.Nx
open Go.RowKit

section
variable {P : Program} {Γ : Env} {B : Base} {S : Cells} {ρ : Infos} {tm : List V} {own : Own} {a : Act} {w : World}
variable {o : Oper} {K : V → Own → Log → Prop} {log : Log} {dr : Bool}

/-- what a list's cells are, one behind another -/
structure Read (S : Cells) (w : World) (size : Nat) (xs : List T) (v : Value) (news : List Value) : Prop where
  len : news.length = xs.length * size
  run : ∀ (P : Program) (w' : World), (∀ ad : Addr, w'.cell? ad = w.cell? ad) → (Builtin.firstCells size xs.length v).run P w' = .ok news.toArray w'
  rel : ∀ (i : Nat) (x : T) (j : Nat) (c : T), xs[i]? = some x → x.cells[j]? = some c → ∃ u, news[i * size + j]? = some u ∧ RelT S w c u
  one : ∀ z ∈ news, vone z = true
theorem rdl_read {sz size : Nat} {xs : List T} {v : Value} (h : Rdl S w sz xs v) (hs : xs = [] ∨ sz = size) (hp : 0 < size) : ∃ ad cap news, v = .slice ad xs.length cap ∧ xs.length ≤ cap ∧ Read S w size xs v news := by
  obtain ⟨ad, cap, e, hc, u, h1, h2⟩ := h.ex
  rcases hs with rfl | rfl
  · refine ⟨ad, cap, [], e, hc, by simp, fun P w' hw => ?_, fun i x j c hx => by simp at hx, fun z hz => by simp at hz⟩
    subst e
    cases ad with
    | none => simp [Builtin.firstCells]
    | some ad => simpa using run_firstCells_some (P := P) w' size 0 ad 0 cap [] (by simp) (fun j v hv => by simp at hv)
  · refine ⟨ad, cap, (List.range (xs.length * sz)).map (fun q => u (q / sz) (q % sz)), e, hc, by simp, fun P w' hw => ?_, fun i x j c hx hc' => ?_, fun z hz => ?_⟩
    · subst e
      cases ad with
      | none =>
        have hxs : xs = [] := by
          by_cases hn : xs = []
          · exact hn
          · obtain ⟨b, o, e, _⟩ := h1 hn; cases e
        subst hxs; simp [Builtin.firstCells]
      | some ad =>
        refine run_firstCells_some (P := P) w' sz xs.length ad xs.length cap _ (by simp) (fun q z hz => ?_)
        simp only [List.getElem?_map, Option.map_eq_some_iff] at hz
        obtain ⟨q', hq, rfl⟩ := hz
        have hq2 : q < xs.length * sz := by
          rcases Nat.lt_or_ge q (xs.length * sz) with h | h
          · exact h
          · rw [List.getElem?_eq_none (by simpa using h)] at hq; cases hq
        have : q' = q := by rw [List.getElem?_range hq2] at hq; cases hq; rfl
        subst this
        obtain ⟨b, o, e, h3⟩ := h1 (fun hn => by subst hn; simp at hq2)
        cases e
        have hd : q' / sz < xs.length := (Nat.div_lt_iff_lt_mul hp).2 hq2
        have h4 := h3 (q' / sz) (q' % sz) hd (Nat.mod_lt _ hp)
        rw [hw, add_addr]
        rw [Nat.add_assoc] at h4
        have : q' / sz * sz + q' % sz = q' := by rw [Nat.mul_comm]; exact Nat.div_add_mod q' sz
        rw [this] at h4
        exact h4
    · have hi : i < xs.length := by
        rcases Nat.lt_or_ge i xs.length with h | h
        · exact h
        · rw [List.getElem?_eq_none h] at hx; cases hx
      have hj : j < sz := by
        rw [← (h.sz x (List.mem_of_getElem? hx)).1]
        rcases Nat.lt_or_ge j x.cells.length with h | h
        · exact h
        · rw [List.getElem?_eq_none h] at hc'; cases hc'
      have hlt : i * sz + j < xs.length * sz := by
        have : (i + 1) * sz ≤ xs.length * sz := Nat.mul_le_mul_right _ hi
        rw [Nat.add_mul] at this; omega
      refine ⟨u i j, ?_, h2 i x hx j c hc'⟩
      rw [List.getElem?_map, List.getElem?_range hlt, Option.map_some]
      have e1 : (i * sz + j) / sz = i := by rw [Nat.mul_comm, Nat.mul_add_div hp, Nat.div_eq_of_lt hj]; rfl
      have e2 : (i * sz + j) % sz = j := by rw [Nat.mul_comm, Nat.mul_add_mod, Nat.mod_eq_of_lt hj]
      rw [e1, e2]
    · obtain ⟨q, hq, rfl⟩ := List.mem_map.1 hz
      have hq2 := List.mem_range.1 hq
      have hd : q / sz < xs.length := (Nat.div_lt_iff_lt_mul hp).2 hq2
      have hx : xs[q / sz]? = some xs[q / sz] := by simp [hd]
      obtain ⟨f1, f2⟩ := h.sz _ (List.mem_of_getElem? hx)
      have hm : q % sz < xs[q / sz].cells.length := by rw [f1]; exact Nat.mod_lt _ hp
      have hc' : xs[q / sz].cells[q % sz]? = some xs[q / sz].cells[q % sz] := by simp [hm]
      exact ((h2 _ _ hx _ _ hc').one (f2 _ (List.mem_of_getElem? hc'))).1

theorem app_run {c : Call} {x y : Operand} (hc : c.callee = .builtin .append) (ha : c.args = #[x, y]) {t tu : TypeId} (ht : c.argTypes = #[t, tu]) (ho : o.op = .call c) {u : Value} {w' : World} (h : (Builtin.append_ #[t, tu] o.type #[a.eval x, a.eval y]).run P w = .ok u w') :
    (execOp a.eval o).run P w = .ok (.value u) w' := by
  simp [execOp, ho, resolve, hc, ha, ht, invoke, builtin, h]
theorem app_fit {t tu ty e e2 : TypeId} {i : TypeInfo} (ht : P.underlying t = some (.slice e)) (hu : P.underlying tu = some (.slice e2)) (hi : P.info? e = some i) {base : Option Addr} {sLen sCap n cap : Nat} {ad : Option Addr} {news : List Value} {w' : World}
    (hx : (Builtin.firstCells i.size n (.slice ad n cap)).run P w = .ok news.toArray w) (hr : sLen + n ≤ sCap) (hst : ∀ b, base = some b → (storeCells (b.add (sLen * i.size)) news).run P w = .ok () w') (hb : base = none → w' = w) :
    (Builtin.append_ #[t, tu] ty #[.slice base sLen sCap, .slice ad n cap]).run P w = .ok (.slice base (sLen + n) sCap) w' := by
  cases base with
  | none =>
    have := hb rfl; subst this
    simp [Builtin.append_, run_underlying ht, run_underlying hu, sizeOf, typeInfo, hi, Builtin.lenOf, hr, hx]
  | some b =>
    simp [Builtin.append_, run_underlying ht, run_underlying hu, sizeOf, typeInfo, hi, Builtin.lenOf, hr, hx, hst b rfl]
theorem app_grow {t tu ty e e2 : TypeId} {i : TypeInfo} {z : Value} (ht : P.underlying t = some (.slice e)) (hu : P.underlying tu = some (.slice e2)) (hi : P.info? e = some i) (hz : i.zero = some z) {base : Option Addr} {sLen sCap n cap : Nat} {ad : Option Addr} {olds news : List Value}
    (hs : ∀ w' : World, (∀ ad : Addr, w'.cell? ad = w.cell? ad) → (Builtin.firstCells i.size sLen (.slice base sLen sCap)).run P w' = .ok olds.toArray w')
    (hx : ∀ w' : World, (∀ ad : Addr, w'.cell? ad = w.cell? ad) → (Builtin.firstCells i.size n (.slice ad n cap)).run P w' = .ok news.toArray w')
    (hg : sCap < sLen + n) (h63 : ((sLen + n : Nat) : Int) ≤ 9223372036854775807) (hfit : (sLen + n) * i.bytes ≤ 140737488355328) :
    (Builtin.append_ #[t, tu] ty #[.slice base sLen sCap, .slice ad n cap]).run P w =
      .ok (.slice (some ⟨w.heap.size, 0, none⟩) (sLen + n) (grownCap w (sLen + n) sCap e))
        (w.drew.alloc (.cells (olds.toArray ++ news.toArray ++ Builtin.zeroCells z.cells (grownCap w (sLen + n) sCap e - (sLen + n))) e)) := by
  have hn : ¬ (sLen + n ≤ sCap) := by omega
  have h63' : ¬ (9223372036854775807 < ((sLen : Int) + (n : Int))) := by omega
  have h48' : ¬ (281474976710656 < Builtin.nextslicecap (sLen + n) sCap * i.bytes) := by have := growslice_fits hg hfit; omega
  have hf := hx w.drew (fun _ => rfl)
  have hfo := hs w.drew (fun _ => rfl)
  simp [Builtin.append_, run_underlying ht, run_underlying hu, sizeOf, typeInfo, zeroValue, hi, hz, Builtin.lenOf, hn, h63', h48', Question.forced, hf, hfo, newRow, grownCap]
  congr 2
  apply Array.ext'
  simp [List.append_assoc]
theorem grownCap_ge (need old : Nat) (e : TypeId) : need ≤ grownCap w need old e := by
  unfold grownCap
  simp [Question.cut]
theorem zeroCells_size (z : Array Value) (n : Nat) : (Builtin.zeroCells z n).size = n * z.size := by simp [Builtin.zeroCells]

/-- the elements of two lists, one behind the other -/
theorem two_rel {size : Nat} {ys xs : List T} {olds news : List Value} (ho : olds.length = ys.length * size) (hro : ∀ (i : Nat) (x : T) (j : Nat) (c : T), ys[i]? = some x → x.cells[j]? = some c → ∃ u, olds[i * size + j]? = some u ∧ RelT S w c u)
    (hfy : ∀ x ∈ ys, Flat size x) (hrn : ∀ (i : Nat) (x : T) (j : Nat) (c : T), xs[i]? = some x → x.cells[j]? = some c → ∃ u, news[i * size + j]? = some u ∧ RelT S w c u) (rest : Array Value) :
    ∀ (i : Nat) (x : T) (j : Nat) (c : T), (ys ++ xs)[i]? = some x → x.cells[j]? = some c → ∃ u, (olds.toArray ++ news.toArray ++ rest)[i * size + j]? = some u ∧ RelT S w c u := by
  intro i x j c hx hc
  by_cases hi : i < ys.length
  · rw [List.getElem?_append_left hi] at hx
    obtain ⟨u, h1, h2⟩ := hro i x j c hx hc
    refine ⟨u, ?_, h2⟩
    have hlt : i * size + j < olds.length := by
      rcases Nat.lt_or_ge (i * size + j) olds.length with h | h
      · exact h
      · rw [List.getElem?_eq_none h] at h1; cases h1
    rw [Array.getElem?_append_left (by simp; omega), Array.getElem?_append_left (by simpa using hlt)]
    simpa using h1
  · rw [List.getElem?_append_right (by omega)] at hx
    obtain ⟨u, h1, h2⟩ := hrn (i - ys.length) x j c hx hc
    refine ⟨u, ?_, h2⟩
    have hlt : (i - ys.length) * size + j < news.length := by
      rcases Nat.lt_or_ge ((i - ys.length) * size + j) news.length with h | h
      · exact h
      · rw [List.getElem?_eq_none h] at h1; cases h1
    have e : i * size + j = olds.length + ((i - ys.length) * size + j) := by
      rw [ho, Nat.sub_mul]
      have : ys.length * size ≤ i * size := Nat.mul_le_mul_right _ (by omega)
      omega
    rw [Array.getElem?_append_left (by simp; omega), e, Array.getElem?_append_right (by simp)]
    simpa using h1

/-- what is appended, whichever way it is handed over -/
structure ASrc (P : Program) (S : Cells) (w : World) (t tu ty e : TypeId) (i : TypeInfo) (vy : Value) (xs : List T) (news : List Value) : Prop where
  len : news.length = xs.length * i.size
  rel : ∀ (j : Nat) (x : T) (m : Nat) (c : T), xs[j]? = some x → x.cells[m]? = some c → ∃ u, news[j * i.size + m]? = some u ∧ RelT S w c u
  one : ∀ z ∈ news, vone z = true
  flat : ∀ x ∈ xs, Flat i.size x
  fit : ∀ (base : Option Addr) (sLen sCap : Nat) (w' : World), sLen + xs.length ≤ sCap → (∀ b, base = some b → (storeCells (b.add (sLen * i.size)) news).run P w = .ok () w') → (base = none → w' = w) →
    (Builtin.append_ #[t, tu] ty #[.slice base sLen sCap, vy]).run P w = .ok (.slice base (sLen + xs.length) sCap) w'
  grow : ∀ (base : Option Addr) (sLen sCap : Nat) (olds : List Value) (z : Value), i.zero = some z → (∀ w' : World, (∀ ad : Addr, w'.cell? ad = w.cell? ad) → (Builtin.firstCells i.size sLen (.slice base sLen sCap)).run P w' = .ok olds.toArray w') →
    sCap < sLen + xs.length → ((sLen + xs.length : Nat) : Int) ≤ 9223372036854775807 → (sLen + xs.length) * i.bytes ≤ 140737488355328 →
    (Builtin.append_ #[t, tu] ty #[.slice base sLen sCap, vy]).run P w =
      .ok (.slice (some ⟨w.heap.size, 0, none⟩) (sLen + xs.length) (grownCap w (sLen + xs.length) sCap e))
        (w.drew.alloc (.cells (olds.toArray ++ news.toArray ++ Builtin.zeroCells z.cells (grownCap w (sLen + xs.length) sCap e - (sLen + xs.length))) e))
theorem asrc_rdl {t tu ty e e2 : TypeId} {i : TypeInfo} (ht : P.underlying t = some (.slice e)) (hu : P.underlying tu = some (.slice e2)) (hi : P.info? e = some i) {sz : Nat} {xs : List T} {v : Value} (h : Rdl S w sz xs v) (hs : xs = [] ∨ sz = i.size) (hp : 0 < i.size) : ∃ news, ASrc P S w t tu ty e i v xs news := by
  obtain ⟨ad, cap, news, e1, _, rx⟩ := rdl_read h hs hp
  refine ⟨news, rx.len, rx.rel, rx.one, fun x hx => ?_, fun base sLen sCap w' h1 h2 h3 => ?_, fun base sLen sCap olds z hz h1 h2 h3 h4 => ?_⟩
  · rcases hs with rfl | rfl
    · simp at hx
    · exact h.sz x hx
  · rw [e1]; exact app_fit (ty := ty) ht hu hi (e1 ▸ rx.run P w (fun _ => rfl)) h1 h2 h3
  · rw [e1]; exact app_grow (ty := ty) ht hu hi hz h1 (fun w' hw => e1 ▸ rx.run P w' hw) h2 h3 h4
/-- zeros, by their number -/
theorem asrc_zerosN {t tu ty e : TypeId} {i : TypeInfo} {k kn : IntKind} (ht : P.underlying t = some (.slice e)) (htn : P.underlying tu = some (.int kn)) (hi : P.info? e = some i) {z : T} (hz : zeroT P e = some z) (h0 : i.size ≠ 0) (hzs : z.cells.length = i.size)
    (hfl : z.one = true ∨ ∃ cs, z = .agg cs) (hz1 : ∀ c ∈ z.cells, c.one = true) {n : Nat} (q2 : n ≤ 140737488355328) (q3 : n * i.bytes ≤ 140737488355328) :
    ∃ news, ASrc P S w t tu ty e i (.int k n) (List.replicate n z) news := by
  obtain ⟨i', zv, g1, g2, g3⟩ := zeroT_spec hz
  rw [hi] at g1; cases g1
  obtain ⟨c1, c2⟩ := RelT.cells (g3 S w) hfl
  have hwr : IntKind.i64.wrap (n : Int) = n := IntWalk.i64_in n ⟨by omega, by omega⟩
  have hwr0 : IntKind.i64.wrap 0 = 0 := rfl
  have hn1 : ¬ (n : Int) < 0 := by omega
  have hn2 : ¬ (281474976710656 < (n : Int) * (i.bytes : Int)) := by rw [← Int.natCast_mul]; omega
  refine ⟨(Builtin.zeroCells zv.cells n).toList, ?_, fun j x m c hx hc => ?_, fun y hy => ?_, fun x hx => ?_, fun base sLen sCap w' h1 h2 h3 => ?_, fun base sLen sCap olds z' hz' h1 h2 h3 h4 => ?_⟩
  · simp [zeroCells_size, c1, hzs]
  · rw [List.getElem?_replicate] at hx
    split at hx
    · rename_i hj
      cases hx
      have hm : m < z.cells.length := by
        rcases Nat.lt_or_ge m z.cells.length with h | h
        · exact h
        · rw [List.getElem?_eq_none h] at hc; cases hc
      have hlt : j * i.size + m < n * zv.cells.size := by
        have : (j + 1) * i.size ≤ n * i.size := Nat.mul_le_mul_right _ (by omega)
        rw [Nat.add_mul] at this; rw [c1, hzs]; omega
      have hm2 : m < zv.cells.size := by omega
      have e3 : zv.cells[m]? = some zv.cells[m] := by simp [hm2]
      have e4 : (j * i.size + m) % zv.cells.size = m := by
        rw [show i.size = zv.cells.size by rw [c1, hzs], Nat.mul_comm, Nat.mul_add_mod]
        exact Nat.mod_eq_of_lt hm2
      refine ⟨zv.cells[m], ?_, c2 m c _ hc e3⟩
      simp [Builtin.zeroCells, hlt, e4, hm2]
    · cases hx
  · simp only [Builtin.zeroCells, Array.toList_map, Array.toList_range, List.mem_map, List.mem_range] at hy
    obtain ⟨q, hq, rfl⟩ := hy
    have hp : 0 < zv.cells.size := by rw [c1, hzs]; omega
    have hm2 : q % zv.cells.size < zv.cells.size := Nat.mod_lt _ hp
    have hm3 : q % zv.cells.size < z.cells.length := by omega
    have e3 : zv.cells[q % zv.cells.size]? = some zv.cells[q % zv.cells.size] := by simp [hm2]
    have e4 : z.cells[q % zv.cells.size]? = some z.cells[q % zv.cells.size] := by simp [hm3]
    have := ((c2 _ _ _ e4 e3).one (hz1 _ (List.mem_of_getElem? e4))).1
    rw [getElem!_pos zv.cells _ hm2]
    exact this
  · rw [List.eq_of_mem_replicate hx]; exact ⟨hzs, hz1⟩
  · rw [List.length_replicate] at h1 ⊢
    by_cases hz0 : n * i.size = 0
    · have hn0 : n = 0 := by
        rcases Nat.mul_eq_zero.1 hz0 with h | h
        · omega
        · exact (h0 h).elim
      subst hn0
      have hne : (Builtin.zeroCells zv.cells 0).toList = [] := by simp [Builtin.zeroCells]
      rw [hne] at h2
      cases base with
      | none =>
        have := h3 rfl; subst this
        simp [Builtin.append_, run_underlying ht, run_underlying htn, sizeOf, typeInfo, hi, asInt, asIntOf, hwr, hwr0, show sLen ≤ sCap from by simpa using h1]
      | some b =>
        have := h2 b rfl
        simp [Builtin.append_, run_underlying ht, run_underlying htn, sizeOf, typeInfo, hi, asInt, asIntOf, hwr, hwr0, show sLen ≤ sCap from by simpa using h1, this]
    · cases base with
      | none =>
        have := h3 rfl; subst this
        simp [Builtin.append_, run_underlying ht, run_underlying htn, sizeOf, typeInfo, zeroValue, hi, g2, asInt, asIntOf, hwr, hn1, hn2, hz0, h1]
      | some b =>
        have := h2 b rfl
        simp [Builtin.append_, run_underlying ht, run_underlying htn, sizeOf, typeInfo, zeroValue, hi, g2, asInt, asIntOf, hwr, hn1, hn2, hz0, h1, this]
  · rw [List.length_replicate] at h2 h3 h4 ⊢
    rw [g2] at hz'; cases hz'
    have hn : ¬ (sLen + n ≤ sCap) := by omega
    have h63' : ¬ (9223372036854775807 < ((sLen : Int) + (n : Int))) := by omega
    have h48' : ¬ (281474976710656 < Builtin.nextslicecap (sLen + n) sCap * i.bytes) := by have := growslice_fits h2 h4; omega
    have hfo := h1 w.drew (fun _ => rfl)
    by_cases hz0 : n * i.size = 0
    · have hn0 : n = 0 := by
        rcases Nat.mul_eq_zero.1 hz0 with h | h
        · omega
        · exact (h0 h).elim
      subst hn0
      have hne : Builtin.zeroCells zv.cells 0 = #[] := by simp [Builtin.zeroCells]
      have hn' : ¬ (sLen ≤ sCap) := by simpa using hn
      have h63'' : ¬ (9223372036854775807 < (sLen : Int)) := by simpa using h63'
      have h48'' : ¬ (281474976710656 < Builtin.nextslicecap sLen sCap * i.bytes) := by simpa using h48'
      simp [Builtin.append_, run_underlying ht, run_underlying htn, sizeOf, typeInfo, zeroValue, hi, g2, asInt, asIntOf, hwr, hwr0, hn', h63'', h48'', Question.forced, hfo, newRow, grownCap, hne]
    · simp [Builtin.append_, run_underlying ht, run_underlying htn, sizeOf, typeInfo, zeroValue, hi, g2, asInt, asIntOf, hwr, hn1, hn2, hn, h63', h48', hz0, Question.forced, hfo, newRow, grownCap]

theorem asrc_zeros {t tu ty e : TypeId} {i : TypeInfo} {k kn : IntKind} (ht : P.underlying t = some (.slice e)) (htn : P.underlying tu = some (.int kn)) (hi : P.info? e = some i) {z : T} (hz : zeroT P e = some z) (h0 : i.size ≠ 0) (hzs : z.cells.length = i.size)
    (hfl : z.one = true ∨ ∃ cs, z = .agg cs) (hz1 : ∀ c ∈ z.cells, c.one = true) {n : Int} (q1 : 0 ≤ n) (q2 : n ≤ 140737488355328) (q3 : n * (i.bytes : Int) ≤ 140737488355328) :
    ∃ news, ASrc P S w t tu ty e i (.int k n) (List.replicate n.toNat z) news := by
  obtain ⟨m, rfl⟩ := Int.eq_ofNat_of_zero_le q1
  rw [Int.toNat_natCast]
  rw [← Int.natCast_mul] at q3
  exact asrc_zerosN ht htn hi hz h0 hzs hfl hz1 (by omega) (by omega)

/-- what the program's append has grown -/
theorem grew {t tu ty e : TypeId} {i : TypeInfo} {z : Value} (ht : P.underlying t = some (.slice e)) (hi : P.info? e = some i) (hz : i.zero = some z) (hzs : z.cells.size = i.size) (hp : 0 < i.bytes) {ys xs : List T} {vs vx : Value} {olds news : List Value} {base : Option Addr} {sCap : Nat}
    (hvs : vs = .slice base ys.length sCap) (rx : ASrc P S w t tu ty e i vx xs news) (ry : Read S w i.size ys vs olds) (hfy : ∀ x ∈ ys, Flat i.size x) (hfx : ∀ x ∈ xs, Flat i.size x)
    (hg : sCap < ys.length + xs.length) (hfit : (ys.length + xs.length) * i.bytes ≤ maxBytes) :
    ∃ C arr w', (Builtin.append_ #[t, tu] ty #[vs, vx]).run P w = .ok (.slice (some ⟨w.heap.size, 0, none⟩) (ys ++ xs).length C) w' ∧ w' = { w with drawn := w.drawn + 1, heap := w.heap.push (.cells arr e) } ∧ (ys ++ xs).length ≤ C ∧ C * i.size ≤ arr.size ∧
      ∀ (q : Nat) (x : T) (j : Nat) (c : T), (ys ++ xs)[q]? = some x → x.cells[j]? = some c → ∃ u, arr[q * i.size + j]? = some u ∧ RelT S w c u := by
  subst hvs
  have hm : maxBytes = 140737488355328 := rfl
  have hle : ys.length + xs.length ≤ (ys.length + xs.length) * i.bytes := Nat.le_mul_of_pos_right _ hp
  have hr := rx.grow base ys.length sCap olds z hz (fun w' hw => ry.run P w' hw) hg (by omega) (by omega)
  have hge := grownCap_ge (w := w) (ys.length + xs.length) sCap e
  refine ⟨grownCap w (ys.length + xs.length) sCap e, _, _, by rw [List.length_append]; exact hr, rfl, by rw [List.length_append]; exact hge, ?_, two_rel ry.len ry.rel hfy rx.rel _⟩
  simp only [Array.size_append, List.size_toArray, ry.len, rx.len, zeroCells_size, hzs]
  rw [← Nat.add_mul, ← Nat.add_mul]
  exact Nat.mul_le_mul_right _ (by omega)
theorem keep_grew (C : Cells) (n : Nat) (ob : Obj) : Keep C w { w with drawn := n, heap := w.heap.push ob } :=
  ⟨rfl, rfl, rfl, by simp, fun b hb => .inl (by simp [Array.getElem?_push, Nat.ne_of_lt hb])⟩

/-- a new key of a list that has grown: it may be written -/
theorem new_grown (hr : Rel Γ B S ρ ⟨tm, own⟩ a w) {k sz C n : Nat} {ts : List T} {arr : Array Value} {e : TypeId} (hf : look k own = none) (hsz : ∀ x ∈ ts, Flat sz x) (hC : ts.length ≤ C) (hC0 : C * sz ≤ arr.size)
    (h : ∀ (i : Nat) (x : T) (j : Nat) (c : T), ts[i]? = some x → x.cells[j]? = some c → ∃ v, arr[i * sz + j]? = some v ∧ RelT S w c v) :
    ∃ ρ' : Infos, ρ' k = ⟨w.heap.size, .slice (some ⟨w.heap.size, 0, none⟩) ts.length C⟩ ∧ Rel Γ B S ρ' ⟨tm, (k, .lst sz ts 0) :: own⟩ a { w with drawn := n, heap := w.heap.push (.cells arr e) } := by
  have hk := keep_grew (w := w) (fun _ _ => False) n (.cells arr e)
  exact hr.grow (k := k) (blk := .lst sz ts 0) (S' := S) ⟨w.heap.size, .slice (some ⟨w.heap.size, 0, none⟩) ts.length C⟩ hf hk (fun _ _ h => h) (fun _ _ h => .inl h)
    (fun b o hc => by
      have hc' : b = w.heap.size := hc.1
      subst hc'
      exact ⟨Nat.le_refl _, by simp, fun hs => by have := hr.mem.lt _ _ hs; omega⟩)
    (fun ρ' e1 e2 => by
      refine ⟨hsz, some ⟨w.heap.size, 0, none⟩, C, by rw [e1], hC, .inr ⟨by rw [e1], arr, e, by rw [e1]; simp, hC0, fun i x j c hx hc => ?_⟩⟩
      obtain ⟨v, h1, h2⟩ := h i x j c hx hc
      exact ⟨v, h1, h2.keep (fun _ _ h => h) hk (fun _ _ h => h.elim) hr.mem.lt⟩)
/-- the block of a list that has grown, its elements settled -/
theorem relB_settled {k sz C n : Nat} {ts : List T} {arr : Array Value} {e : TypeId} {ρ' : Infos} {own' : Own} {S' : Cells} (hS : ∀ b o, S b o → S' b o) (hS2 : ∀ o, o < ts.length * sz → S' w.heap.size o) (hlt : ∀ b o, S b o → b < w.heap.size) (hρ : ρ' k = ⟨w.heap.size, .slice (some ⟨w.heap.size, 0, none⟩) ts.length C⟩)
    (hsz : ∀ x ∈ ts, Flat sz x) (hC : ts.length ≤ C) (hC0 : C * sz ≤ arr.size) (h : ∀ (i : Nat) (x : T) (j : Nat) (c : T), ts[i]? = some x → x.cells[j]? = some c → ∃ v, arr[i * sz + j]? = some v ∧ RelT S w c v) :
    RelB S' { w with drawn := n, heap := w.heap.push (.cells arr e) } ρ' own' k (.lst sz ts 1) := by
  have hk := keep_grew (w := w) (fun _ _ => False) n (.cells arr e)
  have hlen : ts.length * sz ≤ C * sz := Nat.mul_le_mul_right _ hC
  refine ⟨?_, fun b o sp m cap hrv => ?_, fun m cap hrv => ?_⟩
  · rw [hρ]
    refine .list sz ts _ C (fun i j => (arr[i * sz + j]?).getD undef) hC (fun hne => ⟨w.heap.size, 0, rfl, fun i j hi hj => ?_⟩) hsz fun i x hx j c hc => ?_
    · have hb : i * sz + j < ts.length * sz := by
        have : (i + 1) * sz ≤ ts.length * sz := Nat.mul_le_mul_right _ hi
        rw [Nat.add_mul] at this; omega
      refine ⟨hS2 _ (by omega), ?_⟩
      rw [Nat.zero_add, cell?_eq]
      have hlt : i * sz + j < arr.size := by omega
      simp [hlt]
    · obtain ⟨v, g1, g2⟩ := h i x j c hx hc
      simp only [g1, Option.getD_some]
      exact g2.keep hS hk (fun _ _ h => h.elim) hlt
  · rw [hρ] at hrv
    simp only [Value.slice.injEq, Option.some.injEq, Addr.mk.injEq] at hrv
    obtain ⟨⟨rfl, rfl, rfl⟩, _, rfl⟩ := hrv
    exact .inr ⟨rfl, arr, e, by simp, by omega⟩
  · rw [hρ] at hrv; simp at hrv
theorem new_settled (hr : Rel Γ B S ρ ⟨tm, own⟩ a w) {k sz C n : Nat} {ts : List T} {arr : Array Value} {e : TypeId} (hf : look k own = none) (hsz : ∀ x ∈ ts, Flat sz x) (hC : ts.length ≤ C) (hC0 : C * sz ≤ arr.size)
    (h : ∀ (i : Nat) (x : T) (j : Nat) (c : T), ts[i]? = some x → x.cells[j]? = some c → ∃ v, arr[i * sz + j]? = some v ∧ RelT S w c v) :
    ∃ (ρ' : Infos) (S' : Cells), ρ' k = ⟨w.heap.size, .slice (some ⟨w.heap.size, 0, none⟩) ts.length C⟩ ∧ Rel Γ B S' ρ' ⟨tm, (k, .lst sz ts 1) :: own⟩ a { w with drawn := n, heap := w.heap.push (.cells arr e) } := by
  have hk := keep_grew (w := w) (fun _ _ => False) n (.cells arr e)
  have hS : ∀ b o, S b o → S b o ∨ (b = w.heap.size ∧ o < ts.length * sz) := fun _ _ h => .inl h
  obtain ⟨ρ', h1, h2⟩ := hr.grow (k := k) (blk := .lst sz ts 1) (S' := fun b o => S b o ∨ (b = w.heap.size ∧ o < ts.length * sz)) ⟨w.heap.size, .slice (some ⟨w.heap.size, 0, none⟩) ts.length C⟩ hf hk hS
    (fun b o h => h.imp id fun h => ⟨by omega, by simp; omega⟩)
    (fun b o hc => by
      obtain ⟨o', sp, m, cap, e1, g1, g2⟩ := hc
      simp only [Value.slice.injEq, Option.some.injEq, Addr.mk.injEq] at e1
      obtain ⟨⟨rfl, rfl, _⟩, rfl, rfl⟩ := e1
      refine ⟨Nat.le_refl _, by simp, fun hs => ?_⟩
      rcases hs with hs | hs
      · have := hr.mem.lt _ _ hs; omega
      · omega)
    (fun ρ' e1 e2 => relB_settled hS (fun o ho => .inr ⟨rfl, ho⟩) hr.mem.lt e1 hsz hC hC0 h)
  exact ⟨ρ', _, h1, h2⟩
end
end Go.Nx
