/-
  WHAT IS WRITTEN.
-/
import Derived.Test.YtpmpkcjcjccboaaDoorXg
set_option linter.unusedVariables false
set_option linter.unusedSimpArgs false
namespace Go.Nx
open Go.RowKit

section
variable {P : Program} {Γ : Env} {B : Base} {S : Cells} {ρ : Infos} {tm : List V} {own : Own} {a : Act} {w : World}
variable {o : Oper} {K : V → Own → Log → Prop} {log : Log} {dr : Bool}

theorem run_store1 {b off : Nat} {arr : Array Value} {e : TypeId} {u : Value} (h : w.heap[b]? = some (.cells arr e (0, 0))) (hlt : off < arr.size) (hu : vone u = true) :
    ∃ w', (store ⟨b, off, none⟩ u).run P w = .ok () w' ∧ w'.heap[b]? = some (.cells (arr.setIfInBounds off u) e (0, 0)) ∧ Keep (fun x _ => x = b) w w' := by
  refine ⟨w.setCell ⟨b, off, none⟩ u, ?_, ?_, Keep.setCell w _ u fun _ => rfl⟩
  · rw [run_store P w _ u _ (vone_one hu), cell_row h]
    have : w.frozen? ⟨b, off, none⟩ = false := frozen_of_row w b off arr e h
    simp [hlt, this]
  · simp [World.setCell, Array.getElem?_modify, h]
theorem run_storeCells1 {b off : Nat} {e : TypeId} : ∀ (vs : List Value) (i : Nat) (w : World) (arr : Array Value), w.heap[b]? = some (.cells arr e (0, 0)) → off + i + vs.length ≤ arr.size → (∀ v ∈ vs, vone v = true) →
    ∃ w', (storeCells ⟨b, off, none⟩ vs i).run P w = .ok () w' ∧ w'.heap[b]? = some (.cells (putN arr.toList (off + i) vs).toArray e (0, 0)) ∧ Keep (fun x _ => x = b) w w' := by
  intro vs
  induction vs with
  | nil =>
    intro i w arr h hlen hv
    refine ⟨w, by simp [storeCells], ?_, .refl _ w⟩
    rw [h]
    have : putN arr.toList (off + i) [] = arr.toList := by cases arr.toList <;> cases (off + i) <;> rfl
    simp [this]
  | cons v vs ih =>
    intro i w arr h hlen hv
    simp at hlen
    obtain ⟨w1, h1, h2, h3⟩ := run_store1 (P := P) (off := off + i) (u := v) h (by omega) (hv v (by simp))
    obtain ⟨w2, h4, h5, h6⟩ := ih (i + 1) w1 _ h2 (by simp; omega) (fun x hx => hv x (by simp [hx]))
    refine ⟨w2, ?_, ?_, h3.comp h6 fun _ _ _ hc => hc⟩
    · have e1 : Addr.add ⟨b, off, none⟩ i = ⟨b, off + i, none⟩ := by
        by_cases z : i = 0
        · subst z; simp [Addr.add]
        · simp [Addr.add, z]
      simp [storeCells, e1, h1, h4]
    · rw [h5]
      congr 3
      apply List.ext_getElem?
      intro j
      have l1 : off + i + (v :: vs).length ≤ arr.toList.length := by simp; omega
      have l2 : off + (i + 1) + vs.length ≤ (arr.setIfInBounds (off + i) v).toList.length := by simp; omega
      rw [putN_get _ _ _ j l1, putN_get _ _ _ j l2]
      by_cases c1 : off + (i + 1) ≤ j ∧ j < off + (i + 1) + vs.length
      · rw [if_pos c1, if_pos (by simp; omega)]
        have : j - (off + i) = (j - (off + (i + 1))) + 1 := by omega
        rw [this]; simp
      · rw [if_neg c1]
        by_cases c2 : j = off + i
        · subst c2
          have l3 : off + i < arr.size := by omega
          rw [if_pos (by simp)]
          simp [l3]
        · rw [if_neg (by simp; omega)]
          simp [List.getElem?_set_ne (Ne.symm c2)]
theorem run_storeVar1 {t : TypeId} {i : TypeInfo} {b off : Nat} {e : TypeId} {arr : Array Value} {u : Value} (hi : P.info? t = some i) (h : w.heap[b]? = some (.cells arr e (0, 0))) (hs : u.cells.size = i.size)
    (hlen : off + i.size ≤ arr.size) (hv : ∀ v ∈ u.cells.toList, vone v = true) :
    ∃ w', (storeVar t ⟨b, off, none⟩ u).run P w = .ok () w' ∧ w'.heap[b]? = some (.cells (putN arr.toList off u.cells.toList).toArray e (0, 0)) ∧ Keep (fun x _ => x = b) w w' := by
  obtain ⟨w', h1, h2, h3⟩ := run_storeCells1 (P := P) (off := off) u.cells.toList 0 w arr h (by simp [hs]; omega) hv
  refine ⟨w', ?_, h2, h3⟩
  simp [storeVar, run_sizeOf hi, hs, h1]
theorem op_st_run {t : TypeId} {x y : Operand} {ad : Addr} {w' : World} (ho : o.op = .store t x y) (hx : a.eval x = .pointer (some ad)) (h : (storeVar t ad (a.eval y)).run P w = .ok () w') :
    (execOp a.eval o).run P w = .ok .skip w' := by
  simp [execOp, ho, hx, Instr.storeAt, Instr.sureAddr, h]

/-- an own list's elements turned -/
theorem turn_lst (hr : Rel Γ B S ρ ⟨tm, own⟩ a w) {k sz : Nat} {ts ts' : List T} (hl : look k own = some (.lst sz ts 0)) (hne : ts ≠ []) (hn : ts'.length = ts.length) (hsz : ∀ x ∈ ts', Flat sz x) {w' : World} {arr' : Array Value} {e : TypeId}
    (hk : Keep (fun x _ => x = (ρ k).blk) w w') (hh : w'.heap[(ρ k).blk]? = some (.cells arr' e (0, 0))) (hsize : ∀ arr e', w.heap[(ρ k).blk]? = some (.cells arr e' (0, 0)) → arr'.size = arr.size)
    (h : ∀ (i : Nat) (x : T) (j : Nat) (c : T), ts'[i]? = some x → x.cells[j]? = some c → ∃ v, arr'[i * sz + j]? = some v ∧ RelT S w c v) :
    Rel Γ B S ρ ⟨tm, upd k (.lst sz ts' 0) own⟩ a w' := by
  obtain ⟨C, arr, e', h1, h2, h3, h4, h5, h6⟩ := lst0_cells hr hl hne
  have hpos : 0 < ts.length := List.length_pos_iff.2 hne
  have hC : C ≠ 0 := by omega
  have hcl : claim (ρ k) (.lst sz ts 0) = fun b _ => b = (ρ k).blk := by
    funext b o
    apply propext
    exact ⟨fun h => h.1, fun h => ⟨h, _, _, _, h1, hC⟩⟩
  have hcl' : claim (ρ k) (.lst sz ts' 0) = fun b _ => b = (ρ k).blk := by
    funext b o
    apply propext
    exact ⟨fun h => h.1, fun h => ⟨h, _, _, _, h1, hC⟩⟩
  refine hr.turn hl (.inr ⟨ts', 0, rfl, hn⟩) (by rw [hcl]; exact hk) (fun _ _ h => h) (fun _ _ h => .inl h) (fun b o hc => ?_) ?_
  · rw [hcl'] at hc
    rw [hcl]
    exact ⟨hc, (hr.mem.cl k _ hl b o (by rw [hcl]; exact hc)).2⟩
  · refine ⟨hsz, _, C, by rw [h1, hn], by omega, .inr ⟨rfl, arr', e, hh, by rw [hsize arr e' h3]; exact h4, fun i x j c hx hc => ?_⟩⟩
    obtain ⟨v, g1, g2⟩ := h i x j c hx hc
    exact ⟨v, g1, g2.keep (fun _ _ h => h) hk (fun b o hb hs => (hr.mem.cl k _ hl b o (by rw [hcl]; exact hb)).2 hs) hr.mem.lt⟩

theorem relT_vones {y : T} {u : Value} (h : RelT S w y u) (hf : y.one = true ∨ ∃ cs, y = .agg cs) (h1 : ∀ c ∈ y.cells, c.one = true) : ∀ z ∈ u.cells.toList, vone z = true := by
  intro z hz
  obtain ⟨h3, h4⟩ := h.cells hf
  obtain ⟨i, hi⟩ := List.mem_iff_getElem?.1 hz
  have hlt : i < y.cells.length := by
    rw [← h3]
    rcases Nat.lt_or_ge i u.cells.size with h | h
    · exact h
    · rw [List.getElem?_eq_none (by simpa using h)] at hi; cases hi
  have e : y.cells[i]? = some y.cells[i] := by simp [hlt]
  exact ((h4 i _ z e (by simpa using hi)).one (h1 _ (List.mem_of_getElem? e))).1

theorem op_st (hr : Rel Γ B S ρ ⟨tm, own⟩ a w) {t : TypeId} {x y : Operand} {i : TypeInfo} {va vy : V} (hx : RelV S w ρ own va (a.eval x)) (hy : RelV S w ρ own vy (a.eval y))
    (hi : P.info? t = some i) (hi0 : i.size ≠ 0) (ho : o.op = .store t x y) {base : Nat} {x' y' : Opd} (h : run dr (prog base (.st i.size x' y') [va, vy]) own log K) : Did P Γ B o a w tm K := by
  simp only [prog] at h
  split at h
  · rename_i k off
    have e1 := ptr_of hx
    replace h := rd_elim h
    obtain ⟨b, hb, h⟩ := h
    split at h
    · rename_i cs
      obtain ⟨arr, e, h1, h2, h3⟩ := hr.mem.blk k _ hb
      replace h := cellsP_elim h
      obtain ⟨g1, g2, h⟩ := h
      replace h := lenP_elim h
      obtain ⟨g5, h⟩ := h
      replace h := putNP_elim h
      obtain ⟨g7, h⟩ := h
      replace h := wr_elim h
      obtain ⟨c1, c2⟩ := hy.cells g1
      have hlen : off + i.size ≤ arr.size := by
        rw [h2]
        rcases g7 with g7 | g7
        · rw [g7] at g5; simp at g5; omega
        · omega
      obtain ⟨w', r1, r2, r3⟩ := run_storeVar1 (P := P) (u := a.eval y) hi h1 (by rw [c1, g5]) hlen (hy.cells_one g1 g2)
      have hS : ∀ b o, (fun x _ => x = (ρ k).blk : Cells) b o → ¬ S b o := fun b o hbo hs => (hr.mem.cl k _ hb b o hbo).2 hs
      have hle : Ble (.cells cs) (.cells (putN cs off vy.cells)) := .inr (.inl ⟨_, rfl⟩)
      refine ⟨_, _, _, S, ρ, w', undef, h, hr.turn hb hle r3 (fun _ _ h => h) (fun _ _ h => .inl h) (fun b o hc => ⟨hc, hS b o hc⟩) ?_, rel_undef, .inr ⟨op_st_run ho e1 r1, rfl⟩⟩
      refine ⟨_, e, r2, by simp [putN_length _ _ _ (Or.inr (show off + (a.eval y).cells.toList.length ≤ arr.toList.length by simp; omega)), putN_length _ _ _ g7, h2], fun j c u hc hu => ?_⟩
      have l1 : off + vy.cells.length ≤ cs.length := by omega
      rw [putN_get _ _ _ j l1] at hc
      simp only [List.getElem?_toArray] at hu
      rw [putN_get _ _ _ j (by simp; omega)] at hu
      have mono : ∀ c u, RelV S w ρ own c u → RelV S w' ρ (upd k (.cells (putN cs off vy.cells)) own) c u := fun c u hcu =>
        RelV.mono (fun _ _ h => h) r3 hS hr.mem.lt (OwnLe.upd hb hle) (fun _ _ _ => rfl) hcu
      by_cases c4 : off ≤ j ∧ j < off + vy.cells.length
      · rw [if_pos c4] at hc
        rw [if_pos (by simp; omega)] at hu
        exact mono _ _ (c2 _ _ _ hc (by simpa using hu))
      · rw [if_neg c4] at hc
        rw [if_neg (by simp; omega)] at hu
        exact mono _ _ (h3 j c u hc (by simpa using hu))
    · rename_i sz ts m
      split at h
      · rename_i l
        replace h := req_elim h
        obtain ⟨⟨q1, q2, q3⟩, h⟩ := h
        replace h := wr_elim h
        obtain ⟨arr', e3, c1, c2⟩ := hy.t_of.agg_of
        have hne : ts ≠ [] := fun hn => by subst hn; simp at q2; omega
        obtain ⟨C, arr, e, h1, h2, h3, h4, h5, h6⟩ := lst0_cells hr hb hne
        have hlen : 0 + i.size ≤ arr.size := by omega
        obtain ⟨w', r1, r2, r3⟩ := run_storeVar1 (P := P) (u := a.eval y) hi h3 (by rw [e3]; show arr'.size = i.size; omega) hlen
          (relT_vones hy.t_of (.inr ⟨l, rfl⟩) q3)
        refine ⟨_, _, _, S, ρ, w', undef, h, turn_lst hr hb hne (ts' := l) (by omega) (fun x hx => flat_one (q3 x hx)) r3 r2 (fun arr2 e2 hh => ?_) (fun j x j' c hj hc => ?_), rel_undef, .inr ⟨op_st_run ho e1 r1, rfl⟩⟩
        · rw [h3] at hh
          simp only [Option.some.injEq, Obj.cells.injEq] at hh
          obtain ⟨rfl, _⟩ := hh
          simp [putN_length _ _ _ (Or.inr (show 0 + (a.eval y).cells.toList.length ≤ arr.toList.length by rw [e3]; simp [Value.cells]; omega))]
        · rw [cell_eq_of (q3 x (List.mem_of_getElem? hj))] at hc
          cases j' with
          | succ j' => simp at hc
          | zero =>
            simp at hc; subst hc
            have hlt : j < l.length := by
              rcases Nat.lt_or_ge j l.length with h | h
              · exact h
              · rw [List.getElem?_eq_none h] at hj; cases hj
            have hlt' : j < arr'.size := by omega
            have e4 : arr'[j]? = some arr'[j] := by simp [hlt']
            refine ⟨arr'[j], ?_, c2 j _ _ hj e4⟩
            simp only [List.getElem?_toArray, Nat.mul_one, Nat.add_zero]
            rw [putN_get _ _ _ j (by rw [e3]; simp [Value.cells]; omega), if_pos (by rw [e3]; simp [Value.cells]; omega), e3]
            simp [Value.cells, hlt']
      · exact h.elim
    · exact h.elim
  · rename_i k ie j
    replace h := toT_ok 8 _ _ _ _ _ _ _ _ _ _ _ _ _ _ hr hy h
    obtain ⟨y2, own1, S1, log1, h, c1, hy2⟩ := h
    have hr1 := c1.rel
    have hx1 := c1.v _ _ hx
    replace h := rd_elim h
    obtain ⟨b, hb, h⟩ := h
    split at h
    · rename_i sz ts m
      have e1 := eptr_of hx1 hb
      split at h
      · rename_i hbq
        rw [Nat.beq_eq] at hbq
        replace h := cellsTP_elim h
        obtain ⟨g1, g2, h⟩ := h
        replace h := lenP_elim h
        obtain ⟨g3, h⟩ := h
        replace h := req_elim h
        obtain ⟨g4, h⟩ := h
        replace h := wr_elim h
        have hne : ts ≠ [] := fun hn => by subst hn; simp at g4
        obtain ⟨C, arr, e, h1, h2, h3, h4, h5, h6⟩ := lst0_cells hr1 hb hne
        obtain ⟨k1, k2⟩ := hy2.cells g1
        have hmul : (ie + 1) * sz ≤ C * sz := Nat.mul_le_mul_right _ (by omega)
        rw [Nat.add_mul] at hmul
        obtain ⟨w', r1, r2, r3⟩ := run_storeVar1 (P := P) (off := ie * sz + 0) (u := a.eval y) hi h3 (by omega) (by omega) (relT_vones hy2 g1 g2)
        have l1 : ie * sz + 0 + (a.eval y).cells.toList.length ≤ arr.toList.length := by simp; omega
        refine ⟨_, _, _, S1, ρ, w', undef, h, turn_lst hr1 hb hne (ts' := ts.set ie y2) (by simp) (fun x hx => ?_) r3 r2 (fun arr2 e2 hh => ?_) (fun m x j' c hm hc => ?_), rel_undef, .inr ⟨op_st_run ho e1 r1, rfl⟩⟩
        · rcases List.mem_or_eq_of_mem_set hx with hx | rfl
          · exact h5 x hx
          · exact ⟨by omega, g2⟩
        · rw [h3] at hh
          simp only [Option.some.injEq, Obj.cells.injEq] at hh
          obtain ⟨rfl, _⟩ := hh
          rw [List.size_toArray, putN_length _ _ _ (Or.inr l1)]; simp
        · simp only [List.getElem?_toArray]
          rw [putN_get _ _ _ _ l1]
          by_cases em : ie = m
          · subst em
            rw [List.getElem?_set_self g4] at hm
            cases hm
            have hj' : j' < y2.cells.length := by
              rcases Nat.lt_or_ge j' y2.cells.length with h | h
              · exact h
              · rw [List.getElem?_eq_none h] at hc; cases hc
            have hlt : j' < (a.eval y).cells.size := by omega
            have e4 : (a.eval y).cells[j']? = some (a.eval y).cells[j'] := by simp [hlt]
            refine ⟨_, ?_, k2 j' c _ hc e4⟩
            rw [if_pos (by simp; omega)]
            rw [show ie * sz + j' - (ie * sz + 0) = j' by omega]
            simp
          · rw [List.getElem?_set_ne em] at hm
            have hz := (h5 x (List.mem_of_getElem? hm)).1
            have hj' : j' < sz := by
              rcases Nat.lt_or_ge j' sz with h | h
              · exact h
              · rw [List.getElem?_eq_none (by omega)] at hc; cases hc
            obtain ⟨u, hu, hr'⟩ := h6 m x j' c hm hc
            refine ⟨u, ?_, hr'⟩
            have : ¬ (ie * sz + 0 ≤ m * sz + j' ∧ m * sz + j' < ie * sz + 0 + (a.eval y).cells.toList.length) := by
              simp only [Array.length_toList]
              rcases Nat.lt_or_gt_of_ne em with h | h
              · have : (ie + 1) * sz ≤ m * sz := Nat.mul_le_mul_right _ h
                rw [Nat.add_mul] at this; omega
              · have : (m + 1) * sz ≤ ie * sz := Nat.mul_le_mul_right _ h
                rw [Nat.add_mul] at this; omega
            rw [if_neg this]
            simpa using hu
      · rename_i j m' j' bq hne0
        replace h := nth_elim h
        obtain ⟨h0, x2, hx2, h⟩ := h
        split at h
        · rename_i xs
          replace h := onesP_elim h
          obtain ⟨g0, h⟩ := h
          replace h := cellsTP_elim h
          obtain ⟨g1, g2, h⟩ := h
          replace h := lenP_elim h
          obtain ⟨g3, h⟩ := h
          replace h := putNP_elim h
          obtain ⟨g7, h⟩ := h
          replace h := req_elim h
          obtain ⟨g4, h⟩ := h
          replace h := wr_elim h
          have hx3 : ts[ie]? = some (.agg xs) := by simpa using hx2
          have hne : ts ≠ [] := fun hn => by subst hn; simp at g4
          obtain ⟨C, arr, e, h1, h2, h3, h4, h5, h6⟩ := lst0_cells hr1 hb hne
          obtain ⟨k1, k2⟩ := hy2.cells g1
          have hxs : xs.length = sz := (h5 _ (List.mem_of_getElem? hx3)).1
          have hmul : (ie + 1) * sz ≤ C * sz := Nat.mul_le_mul_right _ (by omega)
          rw [Nat.add_mul] at hmul
          have hjn : j + i.size ≤ sz := by
            rcases g7 with g7 | g7
            · rw [g7] at g3; simp at g3; omega
            · omega
          obtain ⟨w', r1, r2, r3⟩ := run_storeVar1 (P := P) (off := ie * sz + j) (u := a.eval y) hi h3 (by omega) (by omega) (relT_vones hy2 g1 g2)
          have l1 : ie * sz + j + (a.eval y).cells.toList.length ≤ arr.toList.length := by simp; omega
          have l2 : j + y2.cells.length ≤ xs.length := by omega
          refine ⟨_, _, _, S1, ρ, w', undef, h, turn_lst hr1 hb hne (ts' := ts.set ie (.agg (putN xs j y2.cells))) (by simp) (fun x hx => ?_) r3 r2 (fun arr2 e2 hh => ?_) (fun m x j' c hm hc => ?_), rel_undef, .inr ⟨op_st_run ho e1 r1, rfl⟩⟩
          · rcases List.mem_or_eq_of_mem_set hx with hx | rfl
            · exact h5 x hx
            · refine ⟨?_, fun c hc => ?_⟩
              · show (putN xs j y2.cells).length = sz
                rw [putN_length _ _ _ (.inr l2)]; exact hxs
              · obtain ⟨q, hq⟩ := List.mem_iff_getElem?.1 (show c ∈ putN xs j y2.cells from hc)
                rw [putN_get _ _ _ _ l2] at hq
                split at hq
                · exact g2 c (List.mem_of_getElem? hq)
                · exact g0 c (List.mem_of_getElem? hq)
          · rw [h3] at hh
            simp only [Option.some.injEq, Obj.cells.injEq] at hh
            obtain ⟨rfl, _⟩ := hh
            simp [putN_length _ _ _ (Or.inr l1)]
          · simp only [List.getElem?_toArray]
            rw [putN_get _ _ _ _ l1]
            by_cases em : ie = m
            · subst em
              rw [List.getElem?_set_self g4] at hm
              cases hm
              have hc' : (putN xs j y2.cells)[j']? = some c := hc
              rw [putN_get _ _ _ _ l2] at hc'
              by_cases hin : j ≤ j' ∧ j' < j + y2.cells.length
              · rw [if_pos hin] at hc'
                have hlt : j' - j < (a.eval y).cells.size := by omega
                have e4 : (a.eval y).cells[j' - j]? = some (a.eval y).cells[j' - j] := by simp [hlt]
                refine ⟨_, ?_, k2 (j' - j) c _ hc' e4⟩
                rw [if_pos (by simp; omega)]
                rw [show ie * sz + j' - (ie * sz + j) = j' - j by omega]
                simp
              · rw [if_neg hin] at hc'
                obtain ⟨u, hu, hr'⟩ := h6 ie (.agg xs) j' c hx3 hc'
                refine ⟨u, ?_, hr'⟩
                rw [if_neg (by simp; omega)]
                simpa using hu
            · rw [List.getElem?_set_ne em] at hm
              have hz := (h5 x (List.mem_of_getElem? hm)).1
              have hj' : j' < sz := by
                rcases Nat.lt_or_ge j' sz with h | h
                · exact h
                · rw [List.getElem?_eq_none (by omega)] at hc; cases hc
              obtain ⟨u, hu, hr'⟩ := h6 m x j' c hm hc
              refine ⟨u, ?_, hr'⟩
              have : ¬ (ie * sz + j ≤ m * sz + j' ∧ m * sz + j' < ie * sz + j + (a.eval y).cells.toList.length) := by
                simp only [Array.length_toList]
                rcases Nat.lt_or_gt_of_ne em with h | h
                · have : (ie + 1) * sz ≤ m * sz := Nat.mul_le_mul_right _ h
                  rw [Nat.add_mul] at this; omega
                · have : (m + 1) * sz ≤ ie * sz := Nat.mul_le_mul_right _ h
                  rw [Nat.add_mul] at this; omega
              rw [if_neg this]
              simpa using hu
        · exact h.elim
      · exact h.elim
    · exact h.elim
  · exact h.elim
end
end Go.Nx
