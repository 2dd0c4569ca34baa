/-
  CLOSURES, MAPS, MAKE, APPEND.
-/
import Derived.Test.YtpmpkcjcjccboaaDoorXl
import Derived.Laws.Append
import Derived.IntWalk
set_option linter.unusedVariables false
set_option linter.unusedSimpArgs false
namespace Go.Nx
open Go.RowKit

section
variable {P : Program} {Γ : Env} {B : Base} {S : Cells} {ρ : Infos} {tm : List V} {own : Own} {a : Act} {w : World}
variable {o : Oper} {K : V → Own → Log → Prop} {log : Log} {dr : Bool}

/-- A KEY's BLOCK HANDED ON to a new key. -/
theorem Rel.hand (h : Rel Γ B S ρ ⟨tm, own⟩ a w) {w' : World} {S' : Cells} {k k' : Nat} {blk blk2 blk' : Blk} (i : Info) (hl : look k own = some blk) (hf : look k' own = none) (hle : Ble blk blk2)
    (hk : Keep (claim (ρ k) blk) w w') (hS : ∀ b o, S b o → S' b o) (hS' : ∀ b o, S' b o → S b o ∨ claim (ρ k) blk b o ∨ (w.heap.size ≤ b ∧ b < w'.heap.size))
    (hno : ∀ b o, ¬ claim (ρ k) blk2 b o) (hcl : ∀ b o, claim i blk' b o → (claim (ρ k) blk b o ∨ (w.heap.size ≤ b ∧ b < w'.heap.size)) ∧ ¬ S' b o)
    (hb2 : ∀ ρ' : Infos, ρ' k' = i → (∀ j b, look j own = some b → ρ' j = ρ j) → RelB S' w' ρ' ((k', blk') :: upd k blk2 own) k blk2)
    (hb : ∀ ρ' : Infos, ρ' k' = i → (∀ j b, look j own = some b → ρ' j = ρ j) → RelB S' w' ρ' ((k', blk') :: upd k blk2 own) k' blk') :
    ∃ ρ' : Infos, ρ' k' = i ∧ (∀ j b, look j own = some b → ρ' j = ρ j) ∧ Rel Γ B S' ρ' ⟨tm, (k', blk') :: upd k blk2 own⟩ a w' := by
  have hne : k' ≠ k := fun e => by subst e; rw [hf] at hl; cases hl
  have hfu : look k' (upd k blk2 own) = none := by rw [look_upd hl, if_neg hne]; exact hf
  have hρ : ∀ j b, look j own = some b → (if j = k' then i else ρ j) = ρ j := by
    intro j b hj
    rw [if_neg]
    intro e; subst e; rw [hf] at hj; cases hj
  refine ⟨fun j => if j = k' then i else ρ j, by simp, hρ, ?_⟩
  have hle' : OwnLe own ((k', blk') :: upd k blk2 own) := (OwnLe.upd hl hle).trans (OwnLe.cons blk' hfu)
  have lk : ∀ j x, look j ((k', blk') :: upd k blk2 own) = some x → (j = k' ∧ x = blk') ∨ (j ≠ k' ∧ j = k ∧ x = blk2) ∨ (j ≠ k' ∧ j ≠ k ∧ look j own = some x) := fun j x hj => by
    rw [look_cons] at hj
    by_cases e : j = k'
    · rw [if_pos e] at hj; cases hj; exact .inl ⟨e, rfl⟩
    · rw [if_neg e, look_upd hl] at hj
      by_cases e2 : j = k
      · rw [if_pos e2] at hj; cases hj; exact .inr (.inl ⟨e, e2, rfl⟩)
      · rw [if_neg e2] at hj; exact .inr (.inr ⟨e, e2, hj⟩)
  have hc0 := h.mem.cl k blk hl
  have old : ∀ j x b o, look j own = some x → j ≠ k → claim (ρ j) x b o → ¬ claim (ρ k) blk b o ∧ ¬ S' b o ∧ b < w.heap.size := fun j x b o hj hne2 hc => by
    have h1 := h.mem.disj j k x blk hj hl hne2 b o hc
    obtain ⟨h2, h3⟩ := h.mem.cl j x hj b o hc
    refine ⟨h1, fun hs => ?_, h2⟩
    rcases hS' b o hs with hs | hs | hs
    · exact h3 hs
    · exact h1 hs
    · omega
  have new : ∀ b o, claim i blk' b o → b < w'.heap.size := fun b o hc => by
    rcases (hcl b o hc).1 with h1 | h1
    · exact Nat.lt_of_lt_of_le (hc0 b o h1).1 hk.size
    · exact h1.2
  have apart : ∀ j x b o, look j own = some x → j ≠ k → claim (ρ j) x b o → ¬ claim i blk' b o := fun j x b o hj hne2 hc hc' => by
    obtain ⟨h1, h2, h3⟩ := old j x b o hj hne2 hc
    rcases (hcl b o hc').1 with h4 | h4
    · exact h1 h4
    · omega
  refine h.move ?_ hk (fun b o hc => ⟨k, blk, hl, hc⟩) hS (fun b o hb => ?_) hle' hρ fun b o hc => ?_
  · refine h.mem.move hk (fun b o hc => (hc0 b o hc).2) hS (fun b o hb => ?_) hle' hρ (fun j x hj => ?_) (fun j j' x x' hj hj' hjj b o hc hc' => ?_)
    · rcases hS' b o hb with hb | hb | hb
      · exact Nat.lt_of_lt_of_le (h.mem.lt b o hb) hk.size
      · exact Nat.lt_of_lt_of_le (hc0 b o hb).1 hk.size
      · exact hb.2
    · rcases lk j x hj with ⟨e1, e2⟩ | ⟨e0, e1, e2⟩ | ⟨e0, e1, hj2⟩
      · subst e1 e2
        refine .inr ⟨hb _ (by simp) hρ, fun b o hc => ?_⟩
        simp only [if_true] at hc
        exact ⟨new b o hc, (hcl b o hc).2⟩
      · rw [e1, e2]
        refine .inr ⟨hb2 _ (by simp) hρ, fun b o hc => ?_⟩
        simp only [if_neg (Ne.symm hne)] at hc
        exact (hno b o hc).elim
      · refine .inl ⟨hj2, fun b o hc => ?_⟩
        obtain ⟨h1, h2, _⟩ := old j x b o hj2 e1 hc
        exact ⟨h1, h2⟩
    · rcases lk j x hj with ⟨e1, e2⟩ | ⟨e0, e1, e2⟩ | ⟨e0, e1, hj2⟩
      · rw [e2] at hc
        simp only [if_pos e1] at hc
        rcases lk j' x' hj' with ⟨e3, e4⟩ | ⟨e00, e3, e4⟩ | ⟨e00, e3, hj2'⟩
        · exact hjj (e1.trans e3.symm)
        · rw [e4] at hc'
          simp only [if_neg e00] at hc'
          rw [e3] at hc'
          exact hno b o hc'
        · simp only [if_neg e00] at hc'
          exact apart j' x' b o hj2' e3 hc' hc
      · rw [e2] at hc
        simp only [if_neg e0] at hc
        rw [e1] at hc
        exact hno b o hc
      · simp only [if_neg e0] at hc
        rcases lk j' x' hj' with ⟨e3, e4⟩ | ⟨e00, e3, e4⟩ | ⟨e00, e3, hj2'⟩
        · rw [e4] at hc'
          simp only [if_pos e3] at hc'
          exact apart j x b o hj2 e1 hc hc'
        · rw [e4] at hc'
          simp only [if_neg e00] at hc'
          rw [e3] at hc'
          exact hno b o hc'
        · simp only [if_neg e00] at hc'
          exact h.mem.disj j j' x x' hj2 hj2' hjj b o hc hc'
  · rcases hS' b o hb with hb | hb | hb
    · exact .inl hb
    · exact .inr (.inl ⟨k, blk, hl, hb⟩)
    · exact .inr (.inr hb.1)
  · obtain ⟨j, x, hj, hc⟩ := hc
    rcases lk j x hj with ⟨e1, e2⟩ | ⟨e0, e1, e2⟩ | ⟨e0, e1, hj2⟩
    · rw [e2] at hc
      simp only [if_pos e1] at hc
      rcases (hcl b o hc).1 with h1 | h1
      · exact .inl ⟨k, blk, hl, h1⟩
      · exact .inr h1.1
    · rw [e2] at hc
      simp only [if_neg e0] at hc
      rw [e1] at hc
      exact (hno b o hc).elim
    · simp only [if_neg e0] at hc
      exact .inl ⟨j, x, hj2, hc⟩

/-! ### closures -/
theorem op_mkf (hr : Rel Γ B S ρ ⟨tm, own⟩ a w) {f : Fn} {xs ys : Array Operand} {xs' ys' : List Opd} {vs : List V} (hn : xs'.length = xs.size) (hn2 : vs.length = xs.size + ys.size)
    (hv1 : ∀ (i : Nat) (x : Operand) (v : V), xs[i]? = some x → vs[i]? = some v → RelV S w ρ own v (a.eval x)) (hv2 : ∀ (i : Nat) (x : Operand) (v : V), ys[i]? = some x → vs[xs.size + i]? = some v → RelV S w ρ own v (a.eval x))
    (ho : o.op = .makeFunc f xs ys) {base : Nat} (h : run dr (prog base (.mkf f xs' ys') vs) own log K) : Did P Γ B o a w tm K := by
  have h' : K (.fn f (vs.take xs'.length) (vs.drop xs'.length)) own log := by
    cases vs <;> exact h
  refine did_val h' hr (u := .func f (xs.map a.eval) (ys.map a.eval)) (.fn _ _ _ _ _ (by simp [hn]; omega) (by simp [hn]; omega) (fun i c v hc hv => ?_) fun i c v hc hv => ?_) ?_
  · simp only [Array.getElem?_map, Option.map_eq_some_iff] at hv
    obtain ⟨x, hx, rfl⟩ := hv
    rw [List.getElem?_take] at hc
    split at hc
    · exact hv1 i x c hx hc
    · cases hc
  · simp only [Array.getElem?_map, Option.map_eq_some_iff] at hv
    obtain ⟨x, hx, rfl⟩ := hv
    rw [List.getElem?_drop, hn] at hc
    exact hv2 i x c hx hc
  · simp [execOp, ho, Instr.makeFunc]

/-! ### maps -/
theorem op_mkm (hr : Rel Γ B S ρ ⟨tm, own⟩ a w) {t kt et : TypeId} {k : Nat} (ht : P.underlying t = some (.map kt et)) (ho : o.op = .makeMap t none) (h : run dr (.new k (.map true []) (.ret (.mp k))) own log K) : Did P Γ B o a w tm K := by
  replace h := new_elim h
  obtain ⟨hf, h⟩ := h
  have hk := Keep.alloc (fun _ _ => False) w (.map #[] 0)
  obtain ⟨ρ', h1, h2⟩ := hr.grow (k := k) (blk := .map true []) (w' := { w with heap := w.heap.push (.map #[] 0) }) (S' := S) ⟨w.heap.size, .nilFunc⟩ hf hk (fun _ _ h => h) (fun _ _ h => .inl h)
    (fun b o hc => by
      have hc' : b = w.heap.size := hc
      subst hc'
      exact ⟨Nat.le_refl _, by simp, fun hs => by have := hr.mem.lt _ _ hs; omega⟩)
    (fun ρ' e1 e2 => ⟨fun _ => rfl, #[], 0, by rw [e1]; simp, rfl, fun i e m he => by simp at he⟩)
  refine ⟨_, _, _, S, ρ', _, .map (some w.heap.size), h, h2, ?_, .inl ?_⟩
  · have := RelV.mp (S := S) (w := { w with heap := w.heap.push (.map #[] 0) }) (ρ := ρ') (own := (k, Blk.map true []) :: own) k (.map true []) (by simp [look])
    rw [h1] at this; exact this
  · simp [execOp, ho, Instr.makeMap]
theorem run_checkKey {kt : TypeId} {k : IntKind} {u : Value} {e : Bool} {n : Nat} (hk : P.underlying kt = some (.int k)) : (Instr.checkKey e (n + 1) kt u).run P w = .ok () w := by
  simp [Instr.checkKey, underlying, hk]
theorem find_no {kt : TypeId} {kk : IntKind} {x : T} {u : Value} (hx : RelT S w x u) : ∀ (es : List (T × V)) (arr : List MapEntry) (i : Nat), arr.length = es.length →
    (∀ (i : Nat) (e : T × V) (m : MapEntry), es[i]? = some e → arr[i]? = some m → RelT S w e.1 m.key) → keyNew x es → Instr.findNow (.int kk) u arr i = some none
  | [], arr, i, hn, _, _ => by
    have : arr = [] := List.eq_nil_of_length_eq_zero (by simpa using hn)
    subst this; rfl
  | e :: es, arr, i, hn, hr, hnew => by
    cases arr with
    | nil => simp at hn
    | cons m arr =>
      obtain ⟨h1, h2⟩ := hnew
      have hm := hr 0 e m rfl rfl
      have ih := find_no (kt := kt) (kk := kk) hx es arr (i + 1) (by simpa using hn) (fun i e m he hm => hr (i + 1) e m (by simpa using he) (by simpa using hm)) h2
      unfold sameKey at h1
      split at h1
      · rename_i k1 z1 k2 z2 hx2
        rw [hx2] at hm
        have e1 := RelT.int_of hx
        have e2 := RelT.int_of hm
        split at h1
        · rename_i hkk
          have := kEq_eq hkk
          subst this
          simp only [Option.some.injEq, decide_eq_false_iff_not] at h1
          have : (z1 == z2) = false := by simpa using h1
          simp only [Instr.findNow, e1, e2, Instr.sameNow, if_true, this]
          rw [← e1]; exact ih
        · cases h1
      · cases h1
theorem mp_of {k : Nat} {u : Value} (h : RelV S w ρ own (.mp k) u) : u = .map (some (ρ k).blk) := by cases h; rfl
theorem op_ins (hr : Rel Γ B S ρ ⟨tm, own⟩ a w) {t kt et : TypeId} {kk : IntKind} {m k v : Operand} {vm vk vv : V} (hm : RelV S w ρ own vm (a.eval m)) (hk : RelV S w ρ own vk (a.eval k)) (hv : RelV S w ρ own vv (a.eval v))
    (ht : P.underlying t = some (.map kt et)) (hkt : P.underlying kt = some (.int kk)) (ho : o.op = .insert t m k v) {base : Nat} {m' k' v' : Opd} (h : run dr (prog base (.ins m' k' v') [vm, vk, vv]) own log K) : Did P Γ B o a w tm K := by
  simp only [prog] at h
  split at h
  · rename_i r kx
    replace h := oneVP_elim h
    obtain ⟨h1, h⟩ := h
    replace h := rd_elim h
    obtain ⟨b, hb, h⟩ := h
    split at h
    · rename_i nr es
      replace h := req_elim h
      obtain ⟨hnew, h⟩ := h
      replace h := wr_elim h
      obtain ⟨_, arr, clock, g1, g2, g3⟩ := hr.mem.blk r _ hb
      have em := mp_of hm
      have hf := find_no (kt := kt) (kk := kk) hk.t_of es arr.toList 0 (by simpa using g2) (fun i e m he hm => (g3 i e m he (by simpa using hm)).1) hnew
      have hlt := lt_of_heap g1
      have e1 : w.heap[(ρ r).blk] = .map arr clock := by
        have := g1
        rw [Array.getElem?_eq_getElem hlt] at this
        exact Option.some.inj this
      let w' : World := { w with heap := w.heap.setIfInBounds (ρ r).blk (.map (arr.push { key := a.eval k, val := a.eval v, born := clock }) (clock + 1)) }
      have hrun : (execOp a.eval o).run P w = .ok .skip w' := by
        simp [execOp, ho, em, Instr.mapUpdate, underlying, ht, getObj, Sem.run, e1, hlt, run_checkKey hkt, Instr.findKey, hkt, hf, setObj, w']
      have hle : Ble (.map nr es) (.map false (es ++ [(kx, vv)])) := .inr ⟨_, _, rfl⟩
      have hkp : Keep (claim (ρ r) (.map nr es)) w w' := by
        refine ⟨rfl, rfl, rfl, by simp [w'], fun b hb => ?_⟩
        by_cases e : b = (ρ r).blk
        · subst e
          exact .inr (.inr ⟨rfl, arr, clock, _, _, g1, by simp [w', hlt]; exact ⟨rfl, rfl⟩⟩)
        · refine .inl ?_
          show (w.heap.setIfInBounds (ρ r).blk _)[b]? = w.heap[b]?
          rw [Array.getElem?_setIfInBounds_ne (Ne.symm e)]
      have hS : ∀ b o, claim (ρ r) (.map nr es) b o → ¬ S b o := fun b o hc hs => (hr.mem.cl r _ hb b o hc).2 hs
      refine ⟨_, _, _, S, ρ, w', undef, h, hr.turn hb hle hkp (fun _ _ h => h) (fun _ _ h => .inl h) (fun b o hc => ⟨hc, hS b o hc⟩) ?_, rel_undef, .inr ⟨hrun, rfl⟩⟩
      refine ⟨(fun e => (by cases e)), _, _, by simp [w', hlt]; exact ⟨rfl, rfl⟩, by simp [g2], fun i e m he hm => ?_⟩
      have mt : ∀ x u, RelT S w x u → RelT S w' x u := fun x u hx => hx.keep (fun _ _ h => h) hkp hS hr.mem.lt
      have mv : ∀ x u, RelV S w ρ own x u → RelV S w' ρ (upd r (.map false (es ++ [(kx, vv)])) own) x u := fun x u hx => RelV.mono (fun _ _ h => h) hkp hS hr.mem.lt (OwnLe.upd hb hle) (fun _ _ _ => rfl) hx
      rw [Array.getElem?_push] at hm
      by_cases hi : i = arr.size
      · rw [if_pos hi] at hm
        simp at hm
        subst hm
        rw [List.getElem?_append_right (by omega)] at he
        rw [show i - es.length = 0 by omega] at he
        simp at he
        subst he
        exact ⟨mt _ _ hk.t_of, mv _ _ hv⟩
      · rw [if_neg hi] at hm
        have hlt2 : i < arr.size := by
          rcases Nat.lt_or_ge i arr.size with h | h
          · exact h
          · rw [Array.getElem?_eq_none h] at hm; cases hm
        rw [List.getElem?_append_left (by omega)] at he
        obtain ⟨p1, p2⟩ := g3 i e m he hm
        exact ⟨mt _ _ p1, mv _ _ p2⟩
    · exact h.elim
  · exact h.elim

theorem find_elim {kk : IntKind} {x : T} {u zv : Value} {z : V} (hx : RelT S w x u) (hz : RelV S w ρ own z zv) {F : V → Bool → Pg} : ∀ (es : List (T × V)) (arr : List MapEntry) (i : Nat), arr.length = es.length →
    (∀ (i : Nat) (e : T × V) (m : MapEntry), es[i]? = some e → arr[i]? = some m → RelT S w e.1 m.key ∧ RelV S w ρ own e.2 m.val) → run dr (findP x z es F) own log K →
    ∃ v b vv, run dr (F v b) own log K ∧ RelV S w ρ own v vv ∧ ((Instr.findNow (.int kk) u arr i = some none ∧ b = false ∧ vv = zv) ∨ ∃ j, Instr.findNow (.int kk) u arr i = some (some (j, vv)) ∧ b = true)
  | [], arr, i, hn, _, h => by
    have : arr = [] := List.eq_nil_of_length_eq_zero (by simpa using hn)
    subst this
    exact ⟨z, false, zv, h, hz, .inl ⟨rfl, rfl, rfl⟩⟩
  | e :: es, arr, i, hn, hr, h => by
    cases arr with
    | nil => simp at hn
    | cons m arr =>
      obtain ⟨hm, hv⟩ := hr 0 e m rfl rfl
      obtain ⟨j, v⟩ := e
      simp only [findP] at h
      split at h
      · rename_i b hb
        unfold eqKey at hb
        split at hb
        · rename_i k1 z1 k2 z2
          have e1 := RelT.int_of hx
          have e2 := RelT.int_of hm
          split at hb
          · rename_i hkk
            have := kEq_eq hkk
            subst this
            cases hb
            replace h := br_elim h
            rcases h with ⟨hq, h⟩ | ⟨hq, h⟩
            · rw [eqI_def] at hq
              refine ⟨v, true, m.val, h, hv, .inr ⟨i, ?_, rfl⟩⟩
              simp only [Instr.findNow, e1, e2, Instr.sameNow, if_true, hq]
            · rw [eqI_def] at hq
              obtain ⟨v', b', vv, h1, h2, h3⟩ := find_elim (kk := kk) hx hz es arr (i + 1) (by simpa using hn) (fun i e m he hm => hr (i + 1) e m (by simpa using he) (by simpa using hm)) h
              refine ⟨v', b', vv, h1, h2, ?_⟩
              have e3 : Instr.findNow (.int kk) u (m :: arr) i = Instr.findNow (.int kk) u arr (i + 1) := by
                simp only [Instr.findNow, e1, e2, Instr.sameNow, if_true, hq]
              rw [e3]; exact h3
          · cases hb
        · cases hb
      · exact h.elim
theorem zeroT_spec {t : TypeId} {z : T} (h : zeroT P t = some z) : ∃ i v, P.info? t = some i ∧ i.zero = some v ∧ ∀ (S : Cells) (w : World), RelT S w z v := by
  unfold zeroT at h
  split at h
  · rename_i i hi
    split at h
    · rename_i v hv
      exact ⟨i, v, hi, hv, fun S w => (ofC_rel S w 400).1 _ _ h⟩
    · cases h
  · cases h
theorem op_lkp (hr : Rel Γ B S ρ ⟨tm, own⟩ a w) {t kt et : TypeId} {kk : IntKind} {m k : Operand} {vm vk : V} {z : T} {ok : Bool} (hm : RelV S w ρ own vm (a.eval m)) (hk : RelV S w ρ own vk (a.eval k))
    (ht : P.underlying t = some (.map kt et)) (hkt : P.underlying kt = some (.int kk)) (hz : zeroT P et = some z) (ho : o.op = .lookup t m k ok) {base : Nat} {m' k' : Opd} (h : run dr (prog base (.lkp z ok m' k') [vm, vk]) own log K) : Did P Γ B o a w tm K := by
  obtain ⟨iz, zv, q1, q2, q3⟩ := zeroT_spec hz
  simp only [prog] at h
  have fin : ∀ (log : Log) (v : V) (b : Bool) (vv : Value), run dr (okP ok v b) own log K → RelV S w ρ own v vv → (execOp a.eval o).run P w = .ok (.value (if ok then .tuple #[vv, .bool b] else vv)) w → Did P Γ B o a w tm K := by
    intro log v b vv h hv hrun
    unfold okP at h
    split at h
    · refine did_val (u := .tuple #[vv, .bool b]) h hr (rel_tupV (by simp) fun i c u hc hu => ?_) (by simpa using hrun)
      match i with
      | 0 => simp at hc hu; subst hc hu; exact hv
      | 1 => simp at hc hu; subst hc hu; exact .t _ _ (.bool _)
      | i + 2 => simp at hc
    · exact did_val h hr hv (by simpa using hrun)
  split at h
  · rename_i r kx
    replace h := rd_elim h
    obtain ⟨b, hb, h⟩ := h
    split at h
    · rename_i es
      obtain ⟨_, arr, clock, g1, g2, g3⟩ := hr.mem.blk r _ hb
      have em := mp_of hm
      have hlt := lt_of_heap g1
      have e1 : w.heap[(ρ r).blk] = .map arr clock := by
        have := g1
        rw [Array.getElem?_eq_getElem hlt] at this
        exact Option.some.inj this
      replace h := find_elim (kk := kk) hk.t_of (.t _ _ (q3 S w)) es arr.toList 0 (by simpa using g2) (fun i e m he hm => g3 i e m he (by simpa using hm)) h
      obtain ⟨v, b, vv, h, hv, hf⟩ := h
      refine fin _ v b vv h hv ?_
      rcases hf with ⟨f1, rfl, rfl⟩ | ⟨j, f1, rfl⟩
      · cases ok <;> simp [execOp, ho, em, Instr.lookup, underlying, ht, getObj, Sem.run, e1, hlt, run_checkKey hkt, Instr.findKey, hkt, f1, zeroValue, typeInfo, q1, q2]
      · cases ok <;> simp [execOp, ho, em, Instr.lookup, underlying, ht, getObj, Sem.run, e1, hlt, run_checkKey hkt, Instr.findKey, hkt, f1]
    · exact h.elim
  · have em : a.eval m = .map none := by
      have := hm.t_of
      generalize a.eval m = u at this
      cases this; rfl
    refine fin _ _ _ zv h (.t _ _ (q3 S w)) ?_
    cases ok <;> simp [execOp, ho, em, Instr.lookup, underlying, ht, run_checkKey hkt, Instr.findKey, hkt, Instr.findNow, zeroValue, typeInfo, q1, q2]
  · exact h.elim

/-! ### maps from numbers to numbers -/
theorem mi_find {z : Int} : ∀ (es : List (T × V)) (arr : List MapEntry) (i : Nat), arr.length = es.length → miB es = true →
    (∀ (i : Nat) (e : T × V) (m : MapEntry), es[i]? = some e → arr[i]? = some m → RelT S w e.1 m.key ∧ RelV S w ρ own e.2 m.val) →
    (Instr.findNow (.int .i64) (.int .i64 z) arr i = some none ∧ getMi es z = 0 ∧ ∀ n, putMi es z n = es ++ [(.int .i64 z, .t (.int .i64 n))]) ∨
    ∃ j m, Instr.findNow (.int .i64) (.int .i64 z) arr i = some (some (i + j, m.val)) ∧ arr[j]? = some m ∧ m.key = .int .i64 z ∧ m.val = .int .i64 (getMi es z) ∧ ∀ n, putMi es z n = es.set j (.int .i64 z, .t (.int .i64 n))
  | [], arr, i, hn, _, _ => by
    have : arr = [] := List.eq_nil_of_length_eq_zero (by simpa using hn)
    subst this; exact .inl ⟨rfl, rfl, fun n => rfl⟩
  | e :: es, arr, i, hn, hb, hr => by
    cases arr with
    | nil => simp at hn
    | cons m arr =>
      obtain ⟨hm, hv⟩ := hr 0 e m rfl rfl
      unfold miB at hb
      split at hb
      · rename_i a n
        have e1 := RelT.int_of hm
        have e2 := RelT.int_of hv.t_of
        have ih := mi_find (z := z) es arr (i + 1) (by simpa using hn) hb (fun i e m he hm => hr (i + 1) e m (by simpa using he) (by simpa using hm))
        cases hq : eqI a z with
        | true =>
          have hz : a = z := by simpa [eqI_def] using hq
          subst hz
          refine .inr ⟨0, m, ?_, rfl, e1, ?_, fun n' => ?_⟩
          · simp [Instr.findNow, e1, Instr.sameNow]
          · rw [e2]; simp [getMi, hq]
          · simp [putMi, hq]
        | false =>
          have hz : ¬ a = z := by simpa [eqI_def] using hq
          have e3 : Instr.findNow (.int .i64) (.int .i64 z) (m :: arr) i = Instr.findNow (.int .i64) (.int .i64 z) arr (i + 1) := by
            have : (z == a) = false := by simpa using fun h => hz h.symm
            have h2 : (a == z) = false := by simpa using hz
            simp only [Instr.findNow, e1, Instr.sameNow, if_true, h2, this]
          have e4 : getMi ((.int .i64 a, .t (.int .i64 n)) :: es) z = getMi es z := by simp [getMi, hq]
          have e5 : ∀ n', putMi ((.int .i64 a, .t (.int .i64 n)) :: es) z n' = (.int .i64 a, .t (.int .i64 n)) :: putMi es z n' := fun n' => by simp [putMi, hq]
          rw [e3, e4]
          rcases ih with ⟨h1, h2, h3⟩ | ⟨j, m', h1, h2, h3, h4, h5⟩
          · exact .inl ⟨h1, h2, fun n' => by rw [e5, h3]; rfl⟩
          · refine .inr ⟨j + 1, m', ?_, by simpa using h2, h3, h4, fun n' => by rw [e5, h5]; rfl⟩
            rw [h1, show i + 1 + j = i + (j + 1) by omega]
      · cases hb
theorem miB_ent : ∀ {es : List (T × V)}, miB es = true → ∀ {i : Nat} {e : T × V}, es[i]? = some e → ∃ a n, e = (.int .i64 a, .t (.int .i64 n))
  | [], _, i, e, he => by simp at he
  | x :: r, h, i, e, he => by
    unfold miB at h
    split at h
    · cases i with
      | zero => simp at he; exact ⟨_, _, he.symm⟩
      | succ i => exact miB_ent h (by simpa using he)
    · cases h
theorem miB_putMi : ∀ {es : List (T × V)}, miB es = true → ∀ z n, miB (putMi es z n) = true
  | [], _, z, n => rfl
  | x :: r, h, z, n => by
    have h' := h
    unfold miB at h
    split at h
    · simp only [putMi]
      split
      · simp only [miB]; exact h
      · simp only [miB]; exact miB_putMi h z n
    · cases h
theorem op_lkpi (hr : Rel Γ B S ρ ⟨tm, own⟩ a w) {t kt et : TypeId} {m k : Operand} {vm vk : V} (hm : RelV S w ρ own vm (a.eval m)) (hk : RelV S w ρ own vk (a.eval k))
    (ht : P.underlying t = some (.map kt et)) (hkt : P.underlying kt = some (.int .i64)) (hz : zeroT P et = some (.int .i64 0)) (ho : o.op = .lookup t m k false) {base : Nat} {m' k' : Opd} (h : run dr (prog base (.lkpi m' k') [vm, vk]) own log K) : Did P Γ B o a w tm K := by
  obtain ⟨iz, zv, q1, q2, q3⟩ := zeroT_spec hz
  have q4 := RelT.int_of (q3 S w)
  subst q4
  simp only [prog] at h
  split at h
  · rename_i r z
    replace h := rd_elim h
    obtain ⟨b, hb, h⟩ := h
    split at h
    · rename_i es
      replace h := req_elim h
      obtain ⟨hmi, h⟩ := h
      obtain ⟨_, arr, clock, g1, g2, g3⟩ := hr.mem.blk r _ hb
      have em := mp_of hm
      have ek := RelT.int_of hk.t_of
      have hlt := lt_of_heap g1
      have e1 : w.heap[(ρ r).blk] = .map arr clock := by
        have := g1
        rw [Array.getElem?_eq_getElem hlt] at this
        exact Option.some.inj this
      refine did_val (u := .int .i64 (getMi es z)) h hr (.t _ _ (.int _ _)) ?_
      rcases mi_find (z := z) es arr.toList 0 (by simpa using g2) hmi (fun i e m he hm => g3 i e m he (by simpa using hm)) with ⟨f1, f2, f3⟩ | ⟨j, m0, f1, f2, f3, f4, f5⟩
      · simp [execOp, ho, em, ek, Instr.lookup, underlying, ht, getObj, Sem.run, e1, hlt, run_checkKey hkt, Instr.findKey, hkt, f1, f2, zeroValue, typeInfo, q1, q2]
      · simp [execOp, ho, em, ek, Instr.lookup, underlying, ht, getObj, Sem.run, e1, hlt, run_checkKey hkt, Instr.findKey, hkt, f1, f4]
    · exact h.elim
  · exact h.elim
theorem op_updi (hr : Rel Γ B S ρ ⟨tm, own⟩ a w) {t kt et : TypeId} {m k v : Operand} {vm vk vv : V} (hm : RelV S w ρ own vm (a.eval m)) (hk : RelV S w ρ own vk (a.eval k)) (hv : RelV S w ρ own vv (a.eval v))
    (ht : P.underlying t = some (.map kt et)) (hkt : P.underlying kt = some (.int .i64)) (ho : o.op = .mapUpdate t m k v) {base : Nat} {m' k' v' : Opd} (h : run dr (prog base (.updi m' k' v') [vm, vk, vv]) own log K) : Did P Γ B o a w tm K := by
  simp only [prog] at h
  split at h
  · rename_i r z n
    replace h := rd_elim h
    obtain ⟨b, hb, h⟩ := h
    split at h
    · rename_i nr es
      replace h := req_elim h
      obtain ⟨hmi, h⟩ := h
      replace h := wr_elim h
      obtain ⟨g0, arr, clock, g1, g2, g3⟩ := hr.mem.blk r _ hb
      have em := mp_of hm
      have ek := RelT.int_of hk.t_of
      have ev := RelT.int_of hv.t_of
      have hlt := lt_of_heap g1
      have e1 : w.heap[(ρ r).blk] = .map arr clock := by
        have := g1
        rw [Array.getElem?_eq_getElem hlt] at this
        exact Option.some.inj this
      have hS : ∀ b o, claim (ρ r) (.map nr es) b o → ¬ S b o := fun b o hc hs => (hr.mem.cl r _ hb b o hc).2 hs
      -- what is the map then?
      have fin : ∀ (arr' : Array MapEntry) (clock' : Nat), (execOp a.eval o).run P w = .ok .skip { w with heap := w.heap.setIfInBounds (ρ r).blk (.map arr' clock') } → arr'.size = (putMi es z n).length →
          (∀ (S' : Cells) (w' : World) (ρ' : Infos) (own' : Own), (∀ x u, RelT S w x u → RelT S' w' x u) → (∀ x u, RelV S w ρ own x u → RelV S' w' ρ' own' x u) → ∀ (i : Nat) (e : T × V) (m : MapEntry), (putMi es z n)[i]? = some e → arr'[i]? = some m → RelT S' w' e.1 m.key ∧ RelV S' w' ρ' own' e.2 m.val) → Did P Γ B o a w tm K := by
        intro arr' clock' hrun hsz hrel
        have hle : Ble (.map nr es) (.map nr (putMi es z n)) := .inr ⟨_, _, rfl⟩
        let w' : World := { w with heap := w.heap.setIfInBounds (ρ r).blk (.map arr' clock') }
        have hkp : Keep (claim (ρ r) (.map nr es)) w w' := by
          refine ⟨rfl, rfl, rfl, by simp [w'], fun b hb => ?_⟩
          by_cases e : b = (ρ r).blk
          · subst e
            exact .inr (.inr ⟨rfl, arr, clock, _, _, g1, by simp [w', hlt]; exact ⟨rfl, rfl⟩⟩)
          · refine .inl ?_
            show (w.heap.setIfInBounds (ρ r).blk _)[b]? = w.heap[b]?
            rw [Array.getElem?_setIfInBounds_ne (Ne.symm e)]
        refine ⟨_, _, _, S, ρ, w', undef, h, hr.turn hb hle hkp (fun _ _ h => h) (fun _ _ h => .inl h) (fun b o hc => ⟨hc, hS b o hc⟩) ?_, rel_undef, .inr ⟨hrun, rfl⟩⟩
        refine ⟨fun _ => miB_putMi hmi z n, arr', clock', by simp [w', hlt], hsz, fun i e m he hm => ?_⟩
        exact hrel S w' ρ (upd r (.map nr (putMi es z n)) own) (fun x u hx => hx.keep (fun _ _ h => h) hkp hS hr.mem.lt) (fun x u hx => RelV.mono (fun _ _ h => h) hkp hS hr.mem.lt (OwnLe.upd hb hle) (fun _ _ _ => rfl) hx) i e m he hm
      rcases mi_find (z := z) es arr.toList 0 (by simpa using g2) hmi (fun i e m he hm => g3 i e m he (by simpa using hm)) with ⟨f1, f2, f3⟩ | ⟨j, m0, f1, f2, f3, f4, f5⟩
      · refine fin (arr.push { key := a.eval k, val := a.eval v, born := clock }) (clock + 1) (by simp [execOp, ho, em, ek, ev, Instr.mapUpdate, underlying, ht, getObj, Sem.run, e1, hlt, run_checkKey hkt, Instr.findKey, hkt, f1, setObj]) (by rw [f3]; simp [g2]) fun S' w' ρ' own' mt mv i e m he hm => ?_
        rw [f3] at he
        rw [Array.getElem?_push] at hm
        by_cases hi : i = arr.size
        · rw [if_pos hi] at hm
          simp at hm
          subst hm
          rw [List.getElem?_append_right (by omega)] at he
          rw [show i - es.length = 0 by omega] at he
          simp at he
          subst he
          exact ⟨mt _ _ hk.t_of, .t _ _ (mt _ _ hv.t_of)⟩
        · rw [if_neg hi] at hm
          have hlt2 : i < arr.size := by
            rcases Nat.lt_or_ge i arr.size with h | h
            · exact h
            · rw [Array.getElem?_eq_none h] at hm; cases hm
          rw [List.getElem?_append_left (by omega)] at he
          obtain ⟨p1, p2⟩ := g3 i e m he hm
          exact ⟨mt _ _ p1, mv _ _ p2⟩
      · have f2' : arr[j]? = some m0 := by simpa using f2
        have hlj : j < arr.size := by
          rcases Nat.lt_or_ge j arr.size with h | h
          · exact h
          · rw [Array.getElem?_eq_none h] at f2'; cases f2'
        have hjj : arr[j] = m0 := by
          rw [Array.getElem?_eq_getElem hlj] at f2'
          exact Option.some.inj f2'
        have hks : (Instr.keyThatStays m0.key (.int .i64 z)).run P w = .ok (.int .i64 z) w := by
          rw [f3]; simp [Instr.keyThatStays, Instr.sameBits]
        refine fin (arr.modify j fun e => { e with key := .int .i64 z, val := a.eval v }) clock (by
          simp [execOp, ho, em, ek, ev, Instr.mapUpdate, underlying, ht, getObj, Sem.run, e1, hlt, run_checkKey hkt, Instr.findKey, hkt, f1, setObj, f2', f3, Instr.keyThatStays, Instr.sameBits]) (by rw [f5]; simp [g2]) fun S' w' ρ' own' mt mv i e m he hm => ?_
        rw [f5] at he
        rw [Array.getElem?_modify] at hm
        by_cases hi : j = i
        · subst hi
          rw [if_pos rfl] at hm
          rw [f2'] at hm
          simp at hm
          subst hm
          rw [List.getElem?_set_self (by omega)] at he
          simp at he
          subst he
          rw [ev]
          exact ⟨.int _ _, .t _ _ (.int _ _)⟩
        · rw [if_neg hi] at hm
          rw [List.getElem?_set_ne hi] at he
          obtain ⟨p1, p2⟩ := g3 i e m he hm
          exact ⟨mt _ _ p1, mv _ _ p2⟩
    · exact h.elim
  · exact h.elim
/-! ### make -/
theorem op_mks (hr : Rel Γ B S ρ ⟨tm, own⟩ a w) {t e : TypeId} {l c : Operand} {i : TypeInfo} {z : T} {k : Nat} {v : V} (hl : RelV S w ρ own v (a.eval l)) (hlc : a.eval c = a.eval l) (ht : P.underlying t = some (.slice e)) (hi : P.info? e = some i) (hz : zeroT P e = some z)
    (h0 : i.size ≠ 0) (hzs : z.cells.length = i.size) (hfl : z.one = true ∨ ∃ cs, z = .agg cs) (hz1 : ∀ c ∈ z.cells, c.one = true) (ho : o.op = .makeSlice t l c)
    (h : run dr (intP v fun n => .req (0 ≤ n ∧ n * (i.bytes : Int) ≤ maxBytes) (.new k (.lst i.size (List.replicate n.toNat z) 0) (.ret (.sl k 0 none)))) own log K) (hby : i.bytes ≠ 0) : Did P Γ B o a w tm K := by
  replace h := intP_elim h
  obtain ⟨kk, n, rfl, h⟩ := h
  have e1 := RelT.int_of hl.t_of
  replace h := req_elim h
  obtain ⟨⟨q1, q2⟩, h⟩ := h
  replace h := new_elim h
  obtain ⟨hf, h⟩ := h
  obtain ⟨i', zv, g1, g2, g3⟩ := zeroT_spec hz
  rw [hi] at g1; cases g1
  obtain ⟨c1, c2⟩ := RelT.cells (g3 S w) hfl
  have hb1 : (1 : Int) ≤ i.bytes := by omega
  have hmb : (maxBytes : Int) = 140737488355328 := rfl
  have hn : n ≤ 140737488355328 := by
    have : n * 1 ≤ n * (i.bytes : Int) := Int.mul_le_mul_of_nonneg_left hb1 q1
    omega
  have hwr : IntKind.i64.wrap n = n := IntWalk.i64_in n ⟨by omega, by omega⟩
  let arr : Array Value := (Array.range (n.toNat * i.size)).map (zv.cells[· % zv.cells.size]!)
  have hrun : (execOp a.eval o).run P w = .ok (.value (.slice (some ⟨w.heap.size, 0, none⟩) n.toNat n.toNat)) { w with heap := w.heap.push (.cells arr e) } := by
    have hn1 : ¬ n < 0 := by omega
    have hn2 : ¬ (281474976710656 < (i.bytes : Int) * n) := by rw [Int.mul_comm]; omega
    by_cases hz0 : n.toNat * i.size = 0
    · have hn0 : n = 0 := by
        rcases Nat.mul_eq_zero.1 hz0 with h | h
        · omega
        · exact (h0 h).elim
      subst hn0
      simp [execOp, ho, Instr.makeSlice, underlying, ht, e1, hlc, asInt, asIntOf, typeInfo, hi, hwr, hn1, hn2, sizeOf, newRow, arr]
      have e0 : Array.range 0 = #[] := rfl
      rw [e0]; simp
    · simp [execOp, ho, Instr.makeSlice, underlying, ht, e1, hlc, asInt, asIntOf, typeInfo, hi, hwr, hn1, hn2, sizeOf, newRow, hz0, zeroValue, g2, arr]
  obtain ⟨ρ', e2, hr'⟩ := new_lst hr (k := k) (sz := i.size) (C := n.toNat) (ts := List.replicate n.toNat z) (arr := arr) (e := e) hf (fun x hx => by rw [List.eq_of_mem_replicate hx]; exact ⟨hzs, hz1⟩) (by simp) (by simp [arr]) (fun j x m c hx hc => by
    rw [List.getElem?_replicate] at hx
    split at hx
    · cases hx
      have hm : m < z.cells.length := by
        rcases Nat.lt_or_ge m z.cells.length with h | h
        · exact h
        · rw [List.getElem?_eq_none h] at hc; cases hc
      have hlt : j * i.size + m < n.toNat * i.size := by
        have : (j + 1) * i.size ≤ n.toNat * i.size := Nat.mul_le_mul_right _ (by omega)
        rw [Nat.add_mul] at this; omega
      have hm2 : m < zv.cells.size := by omega
      have e3 : zv.cells[m]? = some zv.cells[m] := by simp [hm2]
      refine ⟨zv.cells[m], ?_, c2 m c _ hc e3⟩
      have hmod : (j * i.size + m) % zv.cells.size = m := by
        rw [c1, hzs, Nat.mul_comm, Nat.mul_add_mod]
        exact Nat.mod_eq_of_lt (by omega)
      simp only [arr, Array.getElem?_map, Array.getElem?_range, if_pos hlt, Option.map_some, hmod]
      simp [hm2]
    · cases hx)
  refine ⟨_, _, _, S, ρ', _, .slice (some ⟨w.heap.size, 0, none⟩) n.toNat n.toNat, h, hr', ?_, .inl hrun⟩
  have := sl_whole (S := S) (w' := { w with heap := w.heap.push (.cells arr e) }) (ρ' := ρ') (k := k) (sz := i.size) (C := n.toNat) (m := 0) (ts := List.replicate n.toNat z) (A := some ⟨w.heap.size, 0, none⟩) (own' := (k, .lst i.size (List.replicate n.toNat z) 0) :: own) (by simp [look]) (by rw [e2]) (by simp) (fun _ => ⟨_, _, rfl⟩)
  simpa using this
end
end Go.Nx
