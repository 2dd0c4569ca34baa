/-
  THE STEPS THAT WRITE.
-/
import Derived.Test.YtbcldnaoecnffaaDoorMh
set_option linter.unusedVariables false
namespace Go.Mx
open Go.RowKit

section
variable {P : Program} {Γ : Env} {B : Base} {S : Cells} {ρ : Nat → Info} {tm : List V} {own : List (Nat × Blk)} {a : Act} {w : World}
variable {o : Oper} {K : St → Prop} {next : Act → World → Prop} {Q : Exit → Act → World → Prop}

theorem run_store1 {b off : Nat} {arr : Array Value} {e : TypeId} {u : Value} (h : w.heap[b]? = some (.cells arr e (0, 0))) (hlt : off < arr.size) (hu : vone u = true) :
    ∃ w', (store ⟨b, off, none⟩ u).run P w = .ok () w' ∧ w'.heap[b]? = some (.cells (arr.setIfInBounds off u) e (0, 0)) ∧ Keep (fun x _ => x = b) w w' := by
  refine ⟨w.setCell ⟨b, off, none⟩ u, ?_, ?_, Keep.setCell w _ u fun _ => rfl⟩
  · rw [run_store P w _ u _ (vone_one hu), cell_row h]
    have : w.frozen? ⟨b, off, none⟩ = false := frozen_of_row w b off arr e h
    simp [hlt, this]
  · simp [World.setCell, Array.getElem?_modify, h]
/-- several cells written -/
theorem run_storeCells1 {b off : Nat} {e : TypeId} : ∀ (vs : List Value) (i : Nat) (w : World) (arr : Array Value), w.heap[b]? = some (.cells arr e (0, 0)) → off + i + vs.length ≤ arr.size → (∀ v ∈ vs, vone v = true) →
    ∃ w', (storeCells ⟨b, off, none⟩ vs i).run P w = .ok () w' ∧ w'.heap[b]? = some (.cells (putN arr.toList (off + i) vs).toArray e (0, 0)) ∧ Keep (fun x _ => x = b) w w' := by
  intro vs
  induction vs with
  | nil =>
    intro i w arr h hlen hv
    refine ⟨w, by simp [storeCells], ?_, .refl _ w⟩
    rw [h]
    have : putN arr.toList (off + i) [] = arr.toList := by cases arr.toList <;> cases (off + i) <;> rfl
    simp [this]
  | cons v vs ih =>
    intro i w arr h hlen hv
    simp at hlen
    obtain ⟨w1, h1, h2, h3⟩ := run_store1 (P := P) (off := off + i) (u := v) h (by omega) (hv v (by simp))
    obtain ⟨w2, h4, h5, h6⟩ := ih (i + 1) w1 _ h2 (by simp; omega) (fun x hx => hv x (by simp [hx]))
    refine ⟨w2, ?_, ?_, h3.comp h6 fun _ _ _ hc => hc⟩
    · have e1 : Addr.add ⟨b, off, none⟩ i = ⟨b, off + i, none⟩ := by
        by_cases z : i = 0
        · subst z; simp [Addr.add]
        · simp [Addr.add, z]
      simp [storeCells, e1, h1, h4]
    · rw [h5]
      congr 3
      apply List.ext_getElem?
      intro j
      have l1 : off + i + (v :: vs).length ≤ arr.toList.length := by simp; omega
      have l2 : off + (i + 1) + vs.length ≤ (arr.setIfInBounds (off + i) v).toList.length := by simp; omega
      rw [putN_get _ _ _ j l1, putN_get _ _ _ j l2]
      by_cases c1 : off + (i + 1) ≤ j ∧ j < off + (i + 1) + vs.length
      · rw [if_pos c1, if_pos (by simp; omega)]
        have : j - (off + i) = (j - (off + (i + 1))) + 1 := by omega
        rw [this]; simp
      · rw [if_neg c1]
        by_cases c2 : j = off + i
        · subst c2
          have l3 : off + i < arr.size := by omega
          rw [if_pos (by simp)]
          simp [l3]
        · rw [if_neg (by simp; omega)]
          simp [List.getElem?_set_ne (Ne.symm c2)]

theorem run_storeVar1 {t : TypeId} {i : TypeInfo} {b off : Nat} {e : TypeId} {arr : Array Value} {u : Value} (hi : P.info? t = some i) (h : w.heap[b]? = some (.cells arr e (0, 0))) (hs : u.cells.size = i.size)
    (hlen : off + i.size ≤ arr.size) (hv : ∀ v ∈ u.cells.toList, vone v = true) :
    ∃ w', (storeVar t ⟨b, off, none⟩ u).run P w = .ok () w' ∧ w'.heap[b]? = some (.cells (putN arr.toList off u.cells.toList).toArray e (0, 0)) ∧ Keep (fun x _ => x = b) w w' := by
  obtain ⟨w', h1, h2, h3⟩ := run_storeCells1 (P := P) (off := off) u.cells.toList 0 w arr h (by simp [hs]; omega) hv
  refine ⟨w', ?_, h2, h3⟩
  simp [storeVar, run_sizeOf hi, hs, h1]

theorem op_st_run {t : TypeId} {x y : Operand} {ad : Addr} {u : Value} {w' : World} (ho : o.op = .store t x y) (hx : a.eval x = .pointer (some ad)) (hy : a.eval y = u) (h : (storeVar t ad u).run P w = .ok () w') :
    (execOp a.eval o).run P w = .ok .skip w' := by
  simp [execOp, ho, hx, hy, Instr.storeAt, Instr.sureAddr, h]

theorem op_st (hn : ∀ st' a' w', K st' → Good Γ B st' a' w' → next a' w') (hr : Rel Γ B S ρ ⟨tm, own⟩ a w) {t : TypeId} {x y : Operand} {x' y' : Opd} {i : TypeInfo} (hx : lowX x = some x') (hy : lowX y = some y')
    (hi : P.info? t = some i) (hi0 : i.size ≠ 0) (ho : o.op = .store t x y) (h : stepK Γ o.dst ⟨tm, own⟩ (.st i.size x' y') K) : o.wp P a w next Q := by
  obtain ⟨v, hv, h⟩ := evK_elim h
  have hrel := ev_rel hr hx hv
  split at h
  · rename_i k off
    obtain ⟨b, hb, h⟩ := lkupK_elim h
    obtain ⟨b', ad, hb', e1, e2⟩ := hrel
    try simp only at hb hb'
    rw [hb] at hb'; cases hb'
    have hB := hr.own k b hb
    cases b with
    | cells cs =>
      obtain rfl := e2 rfl
      obtain ⟨arr, e, h1, h2, h3⟩ := hB
      obtain ⟨z, hz, g1⟩ := evK_elim h
      have hrz := ev_rel hr hy hz
      obtain ⟨g2, g3, g4⟩ := cellsK_elim g1
      obtain ⟨g5, g6⟩ := lenK_elim g4
      obtain ⟨g7, g8⟩ := putNK_elim g6
      have g9 := updK_elim g8
      obtain ⟨c1, c2, c3⟩ := hrz.cells g2 g3
      have hlen : off + i.size ≤ arr.size := by
        rw [h2]
        rcases g7 with g7 | g7
        · rw [g7] at g5; simp at g5; omega
        · omega
      obtain ⟨w', r1, r2, r3⟩ := run_storeVar1 (P := P) (u := a.eval y) hi h1 (by rw [c1, g5]) hlen c3
      refine fin_skip hn g9 (hr.wrote hb rfl rfl ⟨_, rfl⟩ r3 ?_) (op_st_run ho e1 rfl r1)
      refine ⟨_, e, r2, by simp [putN_length _ _ _ (Or.inr (show off + (a.eval y).cells.toList.length ≤ arr.toList.length by simp; omega)), putN_length _ _ _ g7, h2], fun j c u hc hu => ?_⟩
      have l1 : off + z.cells.length ≤ cs.length := by omega
      rw [putN_get _ _ _ j l1] at hc
      simp only [List.getElem?_toArray] at hu
      rw [putN_get _ _ _ j (by simp; omega)] at hu
      have mono : ∀ c u, RelV S w ρ own c u → RelV S w' ρ (upd k (.cells (putN cs off z.cells)) own) c u := fun c u hcu =>
        RelV.mono (fun _ _ h => h) r3 (fun b o hbo hs => (hr.cl k _ hb b o hbo).2.2 hs) hr.lt (OwnLe.upd hb ⟨_, rfl⟩) (fun _ _ _ => rfl) hcu
      by_cases c4 : off ≤ j ∧ j < off + z.cells.length
      · rw [if_pos c4] at hc
        rw [if_pos (by simp; omega)] at hu
        exact mono _ _ (c2 _ _ _ hc (by simpa using hu))
      · rw [if_neg c4] at hc
        rw [if_neg (by simp; omega)] at hu
        exact mono _ _ (h3 j c u hc (by simpa using hu))
    | lst sz ts wr =>
      dsimp only at h
      obtain ⟨hw, h'⟩ := natK_elim h
      subst hw
      obtain rfl := e2 rfl
      obtain ⟨z, hz, g1⟩ := evK_elim h'
      have hrz := ev_rel hr hy hz
      obtain ⟨hs1, hs2, l, hs3, g2, g3, g4, g5⟩ := staK_elim g1
      subst hs1 hs2 hs3
      have g9 := updK_elim g5
      obtain ⟨arr', e3, c1, c2⟩ := RelT.agg_of hrz
      obtain ⟨arr, e, cap, h1, h2, h3, h4, h5, h6⟩ := hB
      have hlen : 0 + i.size ≤ arr.size := by omega
      obtain ⟨w', r1, r2, r3⟩ := run_storeVar1 (P := P) (u := a.eval y) hi h1 (by rw [e3]; show arr'.size = i.size; omega) hlen (by
        rw [e3]
        intro v hv
        obtain ⟨j, hj⟩ := List.mem_iff_getElem?.1 hv
        have hj' : arr'[j]? = some v := by simpa [Value.cells] using hj
        have hlt : j < l.length := by
          rw [← c1]
          rcases Nat.lt_or_ge j arr'.size with h | h
          · exact h
          · rw [Array.getElem?_eq_none h] at hj'; cases hj'
        have e4 : l[j]? = some l[j] := by simp [hlt]
        exact (RelT.one (c2 j _ v e4 hj') (g4 _ (List.mem_of_getElem? e4))).1)
      have one : ∀ x ∈ l, x.cells = [x] := fun x hx => by
        have := g4 x hx
        cases x <;> first | rfl | (simp [T.one] at this)
      refine fin_skip hn g9 (hr.wrote hb rfl rfl ⟨l, rfl, by omega⟩ r3 ?_) (op_st_run ho e1 rfl r1)
      refine ⟨_, e, cap, r2, by rw [h2, g2, g3], by omega, ?_, fun x hx => by simp [one x hx], fun j x j' c hj hc => ?_⟩
      · simp only [List.size_toArray]
        rw [putN_length _ _ _ (Or.inr (by rw [e3]; simp [Value.cells]; omega))]
        simpa using h4
      · rw [one x (List.mem_of_getElem? hj)] at hc
        cases j' with
        | succ j' => simp at hc
        | zero =>
          simp at hc; subst hc
          have hlt : j < l.length := by
            rcases Nat.lt_or_ge j l.length with h | h
            · exact h
            · rw [List.getElem?_eq_none h] at hj; cases hj
          have hlt' : j < arr'.size := by omega
          have e4 : arr'[j]? = some arr'[j] := by simp [hlt']
          refine ⟨arr'[j], ?_, RelT.keep (c2 j _ _ hj e4) (fun _ _ h => h) r3 (fun b o hbo hs => (hr.cl k _ hb b o hbo).2.2 hs) hr.lt⟩
          simp only [List.getElem?_toArray, Nat.mul_one, Nat.add_zero]
          rw [putN_get _ _ _ j (by rw [e3]; simp [Value.cells]; omega), if_pos (by rw [e3]; simp [Value.cells]; omega), e3]
          simp [Value.cells, hlt']
  · rename_i k i' j
    obtain ⟨b, hb, h⟩ := lkupK_elim h
    obtain ⟨sz, ts, wr, ad, hb', e1, e2⟩ := hrel
    try simp only at hb hb'
    rw [hb] at hb'; cases hb'
    have hB := hr.own k _ hb
    dsimp only at h
    obtain ⟨hw, h'⟩ := natK_elim h
    subst hw
    obtain rfl := e2 rfl
    obtain ⟨z, hz, g1⟩ := evK_elim h'
    have hrz := ev_rel hr hy hz
    obtain ⟨hs1, hs2, hs3, y', hs4, g2, g3, g5⟩ := steK_elim g1
    subst hs1 hs2 hs4
    have g9 := updK_elim g5
    obtain ⟨arr, e, cap, h1, h2, h3, h4, h5, h6⟩ := hB
    obtain ⟨o1, o2⟩ := RelT.one hrz g2
    obtain ⟨w', r1, r2, r3⟩ := run_storeVar1 (P := P) (off := i' * 1 + 0) (u := a.eval y) hi h1 (by rw [o2, hs3]; rfl) (by omega) (by rw [o2]; simpa using o1)
    have hc1 : y'.cells = [y'] := by cases y' <;> first | rfl | (simp [T.one] at g2)
    refine fin_skip hn g9 (hr.wrote hb rfl rfl ⟨_, rfl, by simp⟩ r3 ?_) (op_st_run ho e1 rfl r1)
    have l1 : i' * 1 + 0 + (a.eval y).cells.toList.length ≤ arr.toList.length := by rw [o2]; simp; omega
    refine ⟨_, e, cap, r2, by rw [h2]; simp, by simpa using h3, ?_, fun x hx => ?_, fun m x j' c hm hc => ?_⟩
    · simp only [List.size_toArray]
      rw [putN_length _ _ _ (Or.inr l1)]
      simpa using h4
    · rcases List.mem_or_eq_of_mem_set hx with hx | rfl
      · exact h5 x hx
      · simp [hc1]
    · have keep : ∀ {x : T} {u : Value}, RelT S w x u → RelT S w' x u := fun h => RelT.keep h (fun _ _ h => h) r3 (fun b o hbo hs => (hr.cl k _ hb b o hbo).2.2 hs) hr.lt
      simp only [List.getElem?_toArray]
      rw [putN_get _ _ _ _ l1, o2]
      by_cases em : i' = m
      · subst em
        rw [List.getElem?_set_self g3] at hm
        cases hm
        rw [hc1] at hc
        cases j' with
        | succ j' => simp at hc
        | zero =>
          simp at hc; subst hc
          exact ⟨a.eval y, by simp, keep hrz⟩
      · rw [List.getElem?_set_ne em] at hm
        have hz := h5 x (List.mem_of_getElem? hm)
        have hj : j' = 0 := by
          rcases Nat.eq_zero_or_pos j' with h | h
          · exact h
          · rw [List.getElem?_eq_none (by omega)] at hc; cases hc
        subst hj
        obtain ⟨u, hu, hr'⟩ := h6 m x 0 c hm hc
        refine ⟨u, ?_, keep hr'⟩
        rw [if_neg (by simp; omega)]
        simpa using hu
  · exact h.elim
end
end Go.Mx
