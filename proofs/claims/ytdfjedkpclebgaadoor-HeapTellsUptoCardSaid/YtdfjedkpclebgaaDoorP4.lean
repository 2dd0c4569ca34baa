/-
  A part of the machine, and of what is walked.
-/
import Derived.Test.YtdfjedkpclebgaaDoorP3
import Derived.Laws.Append
import Derived.IntWalk
section
set_option linter.unusedVariables false
set_option linter.unusedSimpArgs false
namespace Go.Nx
open Go.RowKit

section
variable {P : Program} {Γ : Env} {B : Base} {S : Cells} {ρ : Infos} {tm : List V} {own : Own} {a : Act} {w : World}
variable {o : Oper} {K : V → Own → Log → Prop} {log : Log} {dr : Bool}

theorem Rel.hand (h : Rel Γ B S ρ ⟨tm, own⟩ a w) {w' : World} {S' : Cells} {k k' : Nat} {blk blk2 blk' : Blk} (i : Info) (hl : look k own = some blk) (hf : look k' own = none) (hle : Ble blk blk2)
    (hk : Keep (claim (ρ k) blk) w w') (hS : ∀ b o, S b o → S' b o) (hS' : ∀ b o, S' b o → S b o ∨ claim (ρ k) blk b o ∨ (w.heap.size ≤ b ∧ b < w'.heap.size))
    (hno : ∀ b o, ¬ claim (ρ k) blk2 b o) (hcl : ∀ b o, claim i blk' b o → (claim (ρ k) blk b o ∨ (w.heap.size ≤ b ∧ b < w'.heap.size)) ∧ ¬ S' b o)
    (hb2 : ∀ ρ' : Infos, ρ' k' = i → (∀ j b, look j own = some b → ρ' j = ρ j) → RelB S' w' ρ' ((k', blk') :: upd k blk2 own) k blk2)
    (hb : ∀ ρ' : Infos, ρ' k' = i → (∀ j b, look j own = some b → ρ' j = ρ j) → RelB S' w' ρ' ((k', blk') :: upd k blk2 own) k' blk') :
    ∃ ρ' : Infos, ρ' k' = i ∧ (∀ j b, look j own = some b → ρ' j = ρ j) ∧ Rel Γ B S' ρ' ⟨tm, (k', blk') :: upd k blk2 own⟩ a w' := by
  have hne : k' ≠ k := fun e => by subst e; rw [hf] at hl; cases hl
  have hfu : look k' (upd k blk2 own) = none := by rw [look_upd hl, if_neg hne]; exact hf
  have hρ : ∀ j b, look j own = some b → (if j = k' then i else ρ j) = ρ j := by
    intro j b hj
    rw [if_neg]
    intro e; subst e; rw [hf] at hj; cases hj
  refine ⟨fun j => if j = k' then i else ρ j, by simp, hρ, ?_⟩
  have hle' : OwnLe own ((k', blk') :: upd k blk2 own) := (OwnLe.upd hl hle).trans (OwnLe.cons blk' hfu)
  have lk : ∀ j x, look j ((k', blk') :: upd k blk2 own) = some x → (j = k' ∧ x = blk') ∨ (j ≠ k' ∧ j = k ∧ x = blk2) ∨ (j ≠ k' ∧ j ≠ k ∧ look j own = some x) := fun j x hj => by
    rw [look_cons] at hj
    by_cases e : j = k'
    · rw [if_pos e] at hj; cases hj; exact .inl ⟨e, rfl⟩
    · rw [if_neg e, look_upd hl] at hj
      by_cases e2 : j = k
      · rw [if_pos e2] at hj; cases hj; exact .inr (.inl ⟨e, e2, rfl⟩)
      · rw [if_neg e2] at hj; exact .inr (.inr ⟨e, e2, hj⟩)
  have hc0 := h.mem.cl k blk hl
  have old : ∀ j x b o, look j own = some x → j ≠ k → claim (ρ j) x b o → ¬ claim (ρ k) blk b o ∧ ¬ S' b o ∧ b < w.heap.size := fun j x b o hj hne2 hc => by
    have h1 := h.mem.disj j k x blk hj hl hne2 b o hc
    obtain ⟨h2, h3⟩ := h.mem.cl j x hj b o hc
    refine ⟨h1, fun hs => ?_, h2⟩
    rcases hS' b o hs with hs | hs | hs
    · exact h3 hs
    · exact h1 hs
    · omega
  have new : ∀ b o, claim i blk' b o → b < w'.heap.size := fun b o hc => by
    rcases (hcl b o hc).1 with h1 | h1
    · exact Nat.lt_of_lt_of_le (hc0 b o h1).1 hk.size
    · exact h1.2
  have apart : ∀ j x b o, look j own = some x → j ≠ k → claim (ρ j) x b o → ¬ claim i blk' b o := fun j x b o hj hne2 hc hc' => by
    obtain ⟨h1, h2, h3⟩ := old j x b o hj hne2 hc
    rcases (hcl b o hc').1 with h4 | h4
    · exact h1 h4
    · omega
  refine h.move ?_ hk (fun b o hc => ⟨k, blk, hl, hc⟩) hS (fun b o hb => ?_) hle' hρ fun b o hc => ?_
  · refine h.mem.move hk (fun b o hc => (hc0 b o hc).2) hS (fun b o hb => ?_) hle' hρ (fun j x hj => ?_) (fun j j' x x' hj hj' hjj b o hc hc' => ?_)
    · rcases hS' b o hb with hb | hb | hb
      · exact Nat.lt_of_lt_of_le (h.mem.lt b o hb) hk.size
      · exact Nat.lt_of_lt_of_le (hc0 b o hb).1 hk.size
      · exact hb.2
    · rcases lk j x hj with ⟨e1, e2⟩ | ⟨e0, e1, e2⟩ | ⟨e0, e1, hj2⟩
      · subst e1 e2
        refine .inr ⟨hb _ (by simp) hρ, fun b o hc => ?_⟩
        simp only [if_true] at hc
        exact ⟨new b o hc, (hcl b o hc).2⟩
      · rw [e1, e2]
        refine .inr ⟨hb2 _ (by simp) hρ, fun b o hc => ?_⟩
        simp only [if_neg (Ne.symm hne)] at hc
        exact (hno b o hc).elim
      · refine .inl ⟨hj2, fun b o hc => ?_⟩
        obtain ⟨h1, h2, _⟩ := old j x b o hj2 e1 hc
        exact ⟨h1, h2⟩
    · rcases lk j x hj with ⟨e1, e2⟩ | ⟨e0, e1, e2⟩ | ⟨e0, e1, hj2⟩
      · rw [e2] at hc
        simp only [if_pos e1] at hc
        rcases lk j' x' hj' with ⟨e3, e4⟩ | ⟨e00, e3, e4⟩ | ⟨e00, e3, hj2'⟩
        · exact hjj (e1.trans e3.symm)
        · rw [e4] at hc'
          simp only [if_neg e00] at hc'
          rw [e3] at hc'
          exact hno b o hc'
        · simp only [if_neg e00] at hc'
          exact apart j' x' b o hj2' e3 hc' hc
      · rw [e2] at hc
        simp only [if_neg e0] at hc
        rw [e1] at hc
        exact hno b o hc
      · simp only [if_neg e0] at hc
        rcases lk j' x' hj' with ⟨e3, e4⟩ | ⟨e00, e3, e4⟩ | ⟨e00, e3, hj2'⟩
        · rw [e4] at hc'
          simp only [if_pos e3] at hc'
          exact apart j x b o hj2 e1 hc hc'
        · rw [e4] at hc'
          simp only [if_neg e00] at hc'
          rw [e3] at hc'
          exact hno b o hc'
        · simp only [if_neg e00] at hc'
          exact h.mem.disj j j' x x' hj2 hj2' hjj b o hc hc'
  · rcases hS' b o hb with hb | hb | hb
    · exact .inl hb
    · exact .inr (.inl ⟨k, blk, hl, hb⟩)
    · exact .inr (.inr hb.1)
  · obtain ⟨j, x, hj, hc⟩ := hc
    rcases lk j x hj with ⟨e1, e2⟩ | ⟨e0, e1, e2⟩ | ⟨e0, e1, hj2⟩
    · rw [e2] at hc
      simp only [if_pos e1] at hc
      rcases (hcl b o hc).1 with h1 | h1
      · exact .inl ⟨k, blk, hl, h1⟩
      · exact .inr h1.1
    · rw [e2] at hc
      simp only [if_neg e0] at hc
      rw [e1] at hc
      exact (hno b o hc).elim
    · simp only [if_neg e0] at hc
      exact .inl ⟨j, x, hj2, hc⟩

theorem op_mkf (hr : Rel Γ B S ρ ⟨tm, own⟩ a w) {f : Fn} {xs ys : Array Operand} {xs' ys' : List Opd} {vs : List V} (hn : xs'.length = xs.size) (hn2 : vs.length = xs.size + ys.size)
    (hv1 : ∀ (i : Nat) (x : Operand) (v : V), xs[i]? = some x → vs[i]? = some v → RelV S w ρ own v (a.eval x)) (hv2 : ∀ (i : Nat) (x : Operand) (v : V), ys[i]? = some x → vs[xs.size + i]? = some v → RelV S w ρ own v (a.eval x))
    (ho : o.op = .makeFunc f xs ys) {base : Nat} (h : run dr (prog base (.mkf f xs' ys') vs) own log K) : Did P Γ B o a w tm K := by
  have h' : K (.fn f (vs.take xs'.length) (vs.drop xs'.length)) own log := by
    cases vs <;> exact h
  refine did_val h' hr (u := .func f (xs.map a.eval) (ys.map a.eval)) (.fn _ _ _ _ _ (by simp [hn]; omega) (by simp [hn]; omega) (fun i c v hc hv => ?_) fun i c v hc hv => ?_) ?_
  · simp only [Array.getElem?_map, Option.map_eq_some_iff] at hv
    obtain ⟨x, hx, rfl⟩ := hv
    rw [List.getElem?_take] at hc
    split at hc
    · exact hv1 i x c hx hc
    · cases hc
  · simp only [Array.getElem?_map, Option.map_eq_some_iff] at hv
    obtain ⟨x, hx, rfl⟩ := hv
    rw [List.getElem?_drop, hn] at hc
    exact hv2 i x c hx hc
  · simp [execOp, ho, Instr.makeFunc]

theorem op_mkm (hr : Rel Γ B S ρ ⟨tm, own⟩ a w) {t kt et : TypeId} {k : Nat} (ht : P.underlying t = some (.map kt et)) (ho : o.op = .makeMap t none) (h : run dr (.new k (.map true []) (.ret (.mp k))) own log K) : Did P Γ B o a w tm K := by
  replace h := new_elim h
  obtain ⟨hf, h⟩ := h
  have hk := Keep.alloc (fun _ _ => False) w (.map #[] 0)
  obtain ⟨ρ', h1, h2⟩ := hr.grow (k := k) (blk := .map true []) (w' := { w with heap := w.heap.push (.map #[] 0) }) (S' := S) ⟨w.heap.size, .nilFunc⟩ hf hk (fun _ _ h => h) (fun _ _ h => .inl h)
    (fun b o hc => by
      have hc' : b = w.heap.size := hc
      subst hc'
      exact ⟨Nat.le_refl _, by simp, fun hs => by have := hr.mem.lt _ _ hs; omega⟩)
    (fun ρ' e1 e2 => ⟨fun _ => rfl, #[], 0, by rw [e1]; simp, rfl, fun i e m he => by simp at he⟩)
  refine ⟨_, _, _, S, ρ', _, .map (some w.heap.size), h, h2, ?_, .inl ?_⟩
  · have := RelV.mp (S := S) (w := { w with heap := w.heap.push (.map #[] 0) }) (ρ := ρ') (own := (k, Blk.map true []) :: own) k (.map true []) (by simp [look])
    rw [h1] at this; exact this
  · simp [execOp, ho, Instr.makeMap]
theorem bytes_beq' (a b : ByteArray) : (a == b) = true ↔ a = b := by
  obtain ⟨x⟩ := a
  obtain ⟨y⟩ := b
  constructor
  · intro h
    have e : x = y := by simpa using (show (x == y) = true from h)
    rw [e]
  · intro h
    cases h
    show (x == x) = true
    simp
def KdOk (s : Bool) (d : TypeDesc) : Prop := (s = false ∧ ∃ kk, d = .int kk) ∨ (s = true ∧ d = .string)
theorem run_checkKey {kt : TypeId} {k : IntKind} {u : Value} {e : Bool} {n : Nat} (hk : P.underlying kt = some (.int k)) : (Instr.checkKey e (n + 1) kt u).run P w = .ok () w := by
  simp [Instr.checkKey, underlying, hk]
theorem run_checkKd {kt : TypeId} {s : Bool} {d : TypeDesc} {u : Value} {e : Bool} {n : Nat} (hk : P.underlying kt = some d) (hd : KdOk s d) : (Instr.checkKey e (n + 1) kt u).run P w = .ok () w := by
  rcases hd with ⟨_, kk, rfl⟩ | ⟨_, rfl⟩ <;> simp [Instr.checkKey, underlying, hk]
theorem same_kd {s : Bool} {d : TypeDesc} {x y : T} {u v : Value} {b : Bool} (hd : KdOk s d) (hx : RelT S w x u) (hy : RelT S w y v) (h : sameKey s x y = some b) : Instr.sameNow d u v = some b := by
  unfold sameKey at h
  split at h
  · rename_i k1 z1 k2 z2
    have e1 := RelT.int_of hx
    have e2 := RelT.int_of hy
    split at h
    · rename_i hkk
      have := kEq_eq hkk
      subst this
      cases h
      rcases hd with ⟨_, kk, rfl⟩ | ⟨e, _⟩
      · rw [e1, e2]
        simp only [Instr.sameNow, if_true]
        rw [show (z1 == z2) = decide (z1 = z2) from rfl]
      · cases e
    · cases h
  · rename_i a b
    have e1 := RelT.str_of hx
    have e2 := RelT.str_of hy
    cases h
    rcases hd with ⟨e, _⟩ | ⟨_, rfl⟩
    · cases e
    · rw [e1, e2]
      simp only [Instr.sameNow]
      congr 1
      rw [Bool.eq_iff_iff, decide_eq_true_eq, bytes_beq']
      exact ⟨fun h => by rw [h], fun h => by
        cases a; cases b; congr 1; exact Array.toList_inj.1 h⟩
  · cases h
theorem eq_kd {s : Bool} {d : TypeDesc} {x y : T} {u v : Value} {b : Bool} (hd : KdOk s d) (hx : RelT S w x u) (hy : RelT S w y v) (h : eqKey s x y = some b) : Instr.sameNow d u v = some b := by
  unfold eqKey at h
  split at h
  · rename_i k1 z1 k2 z2
    have e1 := RelT.int_of hx
    have e2 := RelT.int_of hy
    split at h
    · rename_i hkk
      have := kEq_eq hkk
      subst this
      cases h
      rcases hd with ⟨_, kk, rfl⟩ | ⟨e, _⟩
      · rw [e1, e2, eqI_def]
        simp only [Instr.sameNow, if_true]
      · cases e
    · cases h
  · rename_i a b
    have e1 := RelT.str_of hx
    have e2 := RelT.str_of hy
    cases h
    rcases hd with ⟨e, _⟩ | ⟨_, rfl⟩
    · cases e
    · rw [e1, e2, eqS_def]
      simp only [Instr.sameNow]
      congr 1
      rw [Bool.eq_iff_iff, bytes_beq', beq_iff_eq, ByteArray.toList_eq, ByteArray.toList_eq]
      exact ⟨fun h => by rw [h], fun h => by
        cases a; cases b; congr 1; exact Array.toList_inj.1 h⟩
  · cases h
theorem find_no {s : Bool} {d : TypeDesc} {x : T} {u : Value} (hd : KdOk s d) (hx : RelT S w x u) : ∀ (es : List (T × V)) (arr : List MapEntry) (i : Nat), arr.length = es.length →
    (∀ (i : Nat) (e : T × V) (m : MapEntry), es[i]? = some e → arr[i]? = some m → RelT S w e.1 m.key) → keyNew s x es → Instr.findNow d u arr i = some none
  | [], arr, i, hn, _, _ => by
    have : arr = [] := List.eq_nil_of_length_eq_zero (by simpa using hn)
    subst this; rfl
  | e :: es, arr, i, hn, hr, hnew => by
    cases arr with
    | nil => simp at hn
    | cons m arr =>
      obtain ⟨h1, h2⟩ := hnew
      have hm := hr 0 e m rfl rfl
      have ih := find_no hd hx es arr (i + 1) (by simpa using hn) (fun i e m he hm => hr (i + 1) e m (by simpa using he) (by simpa using hm)) h2
      simp only [Instr.findNow, same_kd hd hx hm h1]
      exact ih
theorem mp_of {k : Nat} {u : Value} (h : RelV S w ρ own (.mp k) u) : u = .map (some (ρ k).blk) := by cases h; rfl
theorem op_ins (hr : Rel Γ B S ρ ⟨tm, own⟩ a w) {t kt et : TypeId} {s : Bool} {d : TypeDesc} {m k v : Operand} {vm vk vv : V} (hm : RelV S w ρ own vm (a.eval m)) (hk : RelV S w ρ own vk (a.eval k)) (hv : RelV S w ρ own vv (a.eval v))
    (ht : P.underlying t = some (.map kt et)) (hkt : P.underlying kt = some d) (hd : KdOk s d) (ho : o.op = .insert t m k v) {base : Nat} {m' k' v' : Opd} (h : run dr (prog base (.ins s m' k' v') [vm, vk, vv]) own log K) : Did P Γ B o a w tm K := by
  simp only [prog] at h
  split at h
  · rename_i r kx
    replace h := oneVP_elim h
    obtain ⟨h1, h⟩ := h
    replace h := rd_elim h
    obtain ⟨b, hb, h⟩ := h
    split at h
    · rename_i nr es
      replace h := req_elim h
      obtain ⟨hnew, h⟩ := h
      replace h := wr_elim h
      obtain ⟨_, arr, clock, g1, g2, g3⟩ := hr.mem.blk r _ hb
      have em := mp_of hm
      have hf := find_no hd hk.t_of es arr.toList 0 (by simpa using g2) (fun i e m he hm => (g3 i e m he (by simpa using hm)).1) hnew
      have hlt := lt_of_heap g1
      have e1 : w.heap[(ρ r).blk] = .map arr clock := by
        have := g1
        rw [Array.getElem?_eq_getElem hlt] at this
        exact Option.some.inj this
      let w' : World := { w with heap := w.heap.setIfInBounds (ρ r).blk (.map (arr.push { key := a.eval k, val := a.eval v, born := clock }) (clock + 1)) }
      have hrun : (execOp a.eval o).run P w = .ok .skip w' := by
        simp [execOp, ho, em, Instr.mapUpdate, underlying, ht, getObj, Sem.run, e1, hlt, run_checkKd hkt hd, Instr.findKey, hkt, hf, setObj, w']
      have hle : Ble (.map nr es) (.map false (es ++ [(kx, vv)])) := .inr ⟨_, _, rfl⟩
      have hkp : Keep (claim (ρ r) (.map nr es)) w w' := by
        refine ⟨rfl, rfl, rfl, by simp [w'], fun b hb => ?_⟩
        by_cases e : b = (ρ r).blk
        · subst e
          exact .inr (.inr ⟨rfl, arr, clock, _, _, g1, by simp [w', hlt]; exact ⟨rfl, rfl⟩⟩)
        · refine .inl ?_
          show (w.heap.setIfInBounds (ρ r).blk _)[b]? = w.heap[b]?
          rw [Array.getElem?_setIfInBounds_ne (Ne.symm e)]
      have hS : ∀ b o, claim (ρ r) (.map nr es) b o → ¬ S b o := fun b o hc hs => (hr.mem.cl r _ hb b o hc).2 hs
      refine ⟨_, _, _, S, ρ, w', undef, h, hr.turn hb hle hkp (fun _ _ h => h) (fun _ _ h => .inl h) (fun b o hc => ⟨hc, hS b o hc⟩) ?_, rel_undef, .inr ⟨hrun, rfl⟩⟩
      refine ⟨(fun e => (by cases e)), _, _, by simp [w', hlt]; exact ⟨rfl, rfl⟩, by simp [g2], fun i e m he hm => ?_⟩
      have mt : ∀ x u, RelT S w x u → RelT S w' x u := fun x u hx => hx.keep (fun _ _ h => h) hkp hS hr.mem.lt
      have mv : ∀ x u, RelV S w ρ own x u → RelV S w' ρ (upd r (.map false (es ++ [(kx, vv)])) own) x u := fun x u hx => RelV.mono (fun _ _ h => h) hkp hS hr.mem.lt (OwnLe.upd hb hle) (fun _ _ _ => rfl) hx
      rw [Array.getElem?_push] at hm
      by_cases hi : i = arr.size
      · rw [if_pos hi] at hm
        simp at hm
        subst hm
        rw [List.getElem?_append_right (by omega)] at he
        rw [show i - es.length = 0 by omega] at he
        simp at he
        subst he
        exact ⟨mt _ _ hk.t_of, mv _ _ hv⟩
      · rw [if_neg hi] at hm
        have hlt2 : i < arr.size := by
          rcases Nat.lt_or_ge i arr.size with h | h
          · exact h
          · rw [Array.getElem?_eq_none h] at hm; cases hm
        rw [List.getElem?_append_left (by omega)] at he
        obtain ⟨p1, p2⟩ := g3 i e m he hm
        exact ⟨mt _ _ p1, mv _ _ p2⟩
    · exact h.elim
  · exact h.elim

theorem find_elim {s : Bool} {d : TypeDesc} {x : T} {u zv : Value} {z : V} (hd : KdOk s d) (hx : RelT S w x u) (hz : RelV S w ρ own z zv) {F : V → Bool → Pg} : ∀ (es : List (T × V)) (arr : List MapEntry) (i : Nat), arr.length = es.length →
    (∀ (i : Nat) (e : T × V) (m : MapEntry), es[i]? = some e → arr[i]? = some m → RelT S w e.1 m.key ∧ RelV S w ρ own e.2 m.val) → run dr (findP s x z es F) own log K →
    ∃ v b vv, run dr (F v b) own log K ∧ RelV S w ρ own v vv ∧ ((Instr.findNow d u arr i = some none ∧ b = false ∧ vv = zv) ∨ ∃ j, Instr.findNow d u arr i = some (some (j, vv)) ∧ b = true)
  | [], arr, i, hn, _, h => by
    have : arr = [] := List.eq_nil_of_length_eq_zero (by simpa using hn)
    subst this
    exact ⟨z, false, zv, h, hz, .inl ⟨rfl, rfl, rfl⟩⟩
  | e :: es, arr, i, hn, hr, h => by
    cases arr with
    | nil => simp at hn
    | cons m arr =>
      obtain ⟨hm, hv⟩ := hr 0 e m rfl rfl
      obtain ⟨j, v⟩ := e
      simp only [findP] at h
      split at h
      · rename_i b hb
        have hs := eq_kd hd hx hm hb
        replace h := br_elim h
        rcases h with ⟨hq, h⟩ | ⟨hq, h⟩
        · subst hq
          refine ⟨v, true, m.val, h, hv, .inr ⟨i, ?_, rfl⟩⟩
          simp only [Instr.findNow, hs]
        · subst hq
          obtain ⟨v', b', vv, h1, h2, h3⟩ := find_elim hd hx hz es arr (i + 1) (by simpa using hn) (fun i e m he hm => hr (i + 1) e m (by simpa using he) (by simpa using hm)) h
          refine ⟨v', b', vv, h1, h2, ?_⟩
          have e3 : Instr.findNow d u (m :: arr) i = Instr.findNow d u arr (i + 1) := by
            simp only [Instr.findNow, hs]
          rw [e3]; exact h3
      · exact h.elim
theorem zeroT_spec {t : TypeId} {z : T} (h : zeroT P t = some z) : ∃ i v, P.info? t = some i ∧ i.zero = some v ∧ ∀ (S : Cells) (w : World), RelT S w z v := by
  unfold zeroT at h
  split at h
  · rename_i i hi
    split at h
    · rename_i v hv
      exact ⟨i, v, hi, hv, fun S w => (ofC_rel S w 400).1 _ _ h⟩
    · cases h
  · cases h
theorem op_lkp (hr : Rel Γ B S ρ ⟨tm, own⟩ a w) {t kt et : TypeId} {s : Bool} {d : TypeDesc} {m k : Operand} {vm vk : V} {z : T} {ok : Bool} (hm : RelV S w ρ own vm (a.eval m)) (hk : RelV S w ρ own vk (a.eval k))
    (ht : P.underlying t = some (.map kt et)) (hkt : P.underlying kt = some d) (hd : KdOk s d) (hz : zeroT P et = some z) (ho : o.op = .lookup t m k ok) {base : Nat} {m' k' : Opd} (h : run dr (prog base (.lkp s z ok m' k') [vm, vk]) own log K) : Did P Γ B o a w tm K := by
  obtain ⟨iz, zv, q1, q2, q3⟩ := zeroT_spec hz
  simp only [prog] at h
  have fin : ∀ (log : Log) (v : V) (b : Bool) (vv : Value), run dr (okP ok v b) own log K → RelV S w ρ own v vv → (execOp a.eval o).run P w = .ok (.value (if ok then .tuple #[vv, .bool b] else vv)) w → Did P Γ B o a w tm K := by
    intro log v b vv h hv hrun
    unfold okP at h
    split at h
    · refine did_val (u := .tuple #[vv, .bool b]) h hr (rel_tupV (by simp) fun i c u hc hu => ?_) (by simpa using hrun)
      match i with
      | 0 => simp at hc hu; subst hc hu; exact hv
      | 1 => simp at hc hu; subst hc hu; exact .t _ _ (.bool _)
      | i + 2 => simp at hc
    · exact did_val h hr hv (by simpa using hrun)
  split at h
  · rename_i r kx
    replace h := rd_elim h
    obtain ⟨b, hb, h⟩ := h
    split at h
    · rename_i es
      obtain ⟨_, arr, clock, g1, g2, g3⟩ := hr.mem.blk r _ hb
      have em := mp_of hm
      have hlt := lt_of_heap g1
      have e1 : w.heap[(ρ r).blk] = .map arr clock := by
        have := g1
        rw [Array.getElem?_eq_getElem hlt] at this
        exact Option.some.inj this
      replace h := find_elim hd hk.t_of (.t _ _ (q3 S w)) es arr.toList 0 (by simpa using g2) (fun i e m he hm => g3 i e m he (by simpa using hm)) h
      obtain ⟨v, b, vv, h, hv, hf⟩ := h
      refine fin _ v b vv h hv ?_
      rcases hf with ⟨f1, rfl, rfl⟩ | ⟨j, f1, rfl⟩
      · cases ok <;> simp [execOp, ho, em, Instr.lookup, underlying, ht, getObj, Sem.run, e1, hlt, run_checkKd hkt hd, Instr.findKey, hkt, f1, zeroValue, typeInfo, q1, q2]
      · cases ok <;> simp [execOp, ho, em, Instr.lookup, underlying, ht, getObj, Sem.run, e1, hlt, run_checkKd hkt hd, Instr.findKey, hkt, f1]
    · exact h.elim
  · have em : a.eval m = .map none := by
      have := hm.t_of
      generalize a.eval m = u at this
      cases this; rfl
    refine fin _ _ _ zv h (.t _ _ (q3 S w)) ?_
    cases ok <;> simp [execOp, ho, em, Instr.lookup, underlying, ht, run_checkKd hkt hd, Instr.findKey, hkt, Instr.findNow, zeroValue, typeInfo, q1, q2]
  · exact h.elim

theorem mi_find {z : Int} : ∀ (es : List (T × V)) (arr : List MapEntry) (i : Nat), arr.length = es.length → miB es = true →
    (∀ (i : Nat) (e : T × V) (m : MapEntry), es[i]? = some e → arr[i]? = some m → RelT S w e.1 m.key ∧ RelV S w ρ own e.2 m.val) →
    (Instr.findNow (.int .i64) (.int .i64 z) arr i = some none ∧ getMi es z = 0 ∧ ∀ n, putMi es z n = es ++ [(.int .i64 z, .t (.int .i64 n))]) ∨
    ∃ j m, Instr.findNow (.int .i64) (.int .i64 z) arr i = some (some (i + j, m.val)) ∧ arr[j]? = some m ∧ m.key = .int .i64 z ∧ m.val = .int .i64 (getMi es z) ∧ ∀ n, putMi es z n = es.set j (.int .i64 z, .t (.int .i64 n))
  | [], arr, i, hn, _, _ => by
    have : arr = [] := List.eq_nil_of_length_eq_zero (by simpa using hn)
    subst this; exact .inl ⟨rfl, rfl, fun n => rfl⟩
  | e :: es, arr, i, hn, hb, hr => by
    cases arr with
    | nil => simp at hn
    | cons m arr =>
      obtain ⟨hm, hv⟩ := hr 0 e m rfl rfl
      unfold miB at hb
      split at hb
      · rename_i a n
        have e1 := RelT.int_of hm
        have e2 := RelT.int_of hv.t_of
        have ih := mi_find (z := z) es arr (i + 1) (by simpa using hn) hb (fun i e m he hm => hr (i + 1) e m (by simpa using he) (by simpa using hm))
        cases hq : eqI a z with
        | true =>
          have hz : a = z := by simpa [eqI_def] using hq
          subst hz
          refine .inr ⟨0, m, ?_, rfl, e1, ?_, fun n' => ?_⟩
          · simp [Instr.findNow, e1, Instr.sameNow]
          · rw [e2]; simp [getMi, hq]
          · simp [putMi, hq]
        | false =>
          have hz : ¬ a = z := by simpa [eqI_def] using hq
          have e3 : Instr.findNow (.int .i64) (.int .i64 z) (m :: arr) i = Instr.findNow (.int .i64) (.int .i64 z) arr (i + 1) := by
            have : (z == a) = false := by simpa using fun h => hz h.symm
            have h2 : (a == z) = false := by simpa using hz
            simp only [Instr.findNow, e1, Instr.sameNow, if_true, h2, this]
          have e4 : getMi ((.int .i64 a, .t (.int .i64 n)) :: es) z = getMi es z := by simp [getMi, hq]
          have e5 : ∀ n', putMi ((.int .i64 a, .t (.int .i64 n)) :: es) z n' = (.int .i64 a, .t (.int .i64 n)) :: putMi es z n' := fun n' => by simp [putMi, hq]
          rw [e3, e4]
          rcases ih with ⟨h1, h2, h3⟩ | ⟨j, m', h1, h2, h3, h4, h5⟩
          · exact .inl ⟨h1, h2, fun n' => by rw [e5, h3]; rfl⟩
          · refine .inr ⟨j + 1, m', ?_, by simpa using h2, h3, h4, fun n' => by rw [e5, h5]; rfl⟩
            rw [h1, show i + 1 + j = i + (j + 1) by omega]
      · cases hb
theorem miB_ent : ∀ {es : List (T × V)}, miB es = true → ∀ {i : Nat} {e : T × V}, es[i]? = some e → ∃ a n, e = (.int .i64 a, .t (.int .i64 n))
  | [], _, i, e, he => by simp at he
  | x :: r, h, i, e, he => by
    unfold miB at h
    split at h
    · cases i with
      | zero => simp at he; exact ⟨_, _, he.symm⟩
      | succ i => exact miB_ent h (by simpa using he)
    · cases h
theorem miB_putMi : ∀ {es : List (T × V)}, miB es = true → ∀ z n, miB (putMi es z n) = true
  | [], _, z, n => rfl
  | x :: r, h, z, n => by
    have h' := h
    unfold miB at h
    split at h
    · simp only [putMi]
      split
      · simp only [miB]; exact h
      · simp only [miB]; exact miB_putMi h z n
    · cases h
theorem op_lkpi (hr : Rel Γ B S ρ ⟨tm, own⟩ a w) {t kt et : TypeId} {m k : Operand} {vm vk : V} (hm : RelV S w ρ own vm (a.eval m)) (hk : RelV S w ρ own vk (a.eval k))
    (ht : P.underlying t = some (.map kt et)) (hkt : P.underlying kt = some (.int .i64)) (hz : zeroT P et = some (.int .i64 0)) (ho : o.op = .lookup t m k false) {base : Nat} {m' k' : Opd} (h : run dr (prog base (.lkpi m' k') [vm, vk]) own log K) : Did P Γ B o a w tm K := by
  obtain ⟨iz, zv, q1, q2, q3⟩ := zeroT_spec hz
  have q4 := RelT.int_of (q3 S w)
  subst q4
  simp only [prog] at h
  split at h
  · rename_i r z
    replace h := rd_elim h
    obtain ⟨b, hb, h⟩ := h
    split at h
    · rename_i es
      replace h := req_elim h
      obtain ⟨hmi, h⟩ := h
      obtain ⟨_, arr, clock, g1, g2, g3⟩ := hr.mem.blk r _ hb
      have em := mp_of hm
      have ek := RelT.int_of hk.t_of
      have hlt := lt_of_heap g1
      have e1 : w.heap[(ρ r).blk] = .map arr clock := by
        have := g1
        rw [Array.getElem?_eq_getElem hlt] at this
        exact Option.some.inj this
      refine did_val (u := .int .i64 (getMi es z)) h hr (.t _ _ (.int _ _)) ?_
      rcases mi_find (z := z) es arr.toList 0 (by simpa using g2) hmi (fun i e m he hm => g3 i e m he (by simpa using hm)) with ⟨f1, f2, f3⟩ | ⟨j, m0, f1, f2, f3, f4, f5⟩
      · simp [execOp, ho, em, ek, Instr.lookup, underlying, ht, getObj, Sem.run, e1, hlt, run_checkKey hkt, Instr.findKey, hkt, f1, f2, zeroValue, typeInfo, q1, q2]
      · simp [execOp, ho, em, ek, Instr.lookup, underlying, ht, getObj, Sem.run, e1, hlt, run_checkKey hkt, Instr.findKey, hkt, f1, f4]
    · exact h.elim
  · exact h.elim
theorem op_updi (hr : Rel Γ B S ρ ⟨tm, own⟩ a w) {t kt et : TypeId} {m k v : Operand} {vm vk vv : V} (hm : RelV S w ρ own vm (a.eval m)) (hk : RelV S w ρ own vk (a.eval k)) (hv : RelV S w ρ own vv (a.eval v))
    (ht : P.underlying t = some (.map kt et)) (hkt : P.underlying kt = some (.int .i64)) (ho : o.op = .mapUpdate t m k v) {base : Nat} {m' k' v' : Opd} (h : run dr (prog base (.updi m' k' v') [vm, vk, vv]) own log K) : Did P Γ B o a w tm K := by
  simp only [prog] at h
  split at h
  · rename_i r z n
    replace h := rd_elim h
    obtain ⟨b, hb, h⟩ := h
    split at h
    · rename_i nr es
      replace h := req_elim h
      obtain ⟨hmi, h⟩ := h
      replace h := wr_elim h
      obtain ⟨g0, arr, clock, g1, g2, g3⟩ := hr.mem.blk r _ hb
      have em := mp_of hm
      have ek := RelT.int_of hk.t_of
      have ev := RelT.int_of hv.t_of
      have hlt := lt_of_heap g1
      have e1 : w.heap[(ρ r).blk] = .map arr clock := by
        have := g1
        rw [Array.getElem?_eq_getElem hlt] at this
        exact Option.some.inj this
      have hS : ∀ b o, claim (ρ r) (.map nr es) b o → ¬ S b o := fun b o hc hs => (hr.mem.cl r _ hb b o hc).2 hs
      -- what is the map then?
      have fin : ∀ (arr' : Array MapEntry) (clock' : Nat), (execOp a.eval o).run P w = .ok .skip { w with heap := w.heap.setIfInBounds (ρ r).blk (.map arr' clock') } → arr'.size = (putMi es z n).length →
          (∀ (S' : Cells) (w' : World) (ρ' : Infos) (own' : Own), (∀ x u, RelT S w x u → RelT S' w' x u) → (∀ x u, RelV S w ρ own x u → RelV S' w' ρ' own' x u) → ∀ (i : Nat) (e : T × V) (m : MapEntry), (putMi es z n)[i]? = some e → arr'[i]? = some m → RelT S' w' e.1 m.key ∧ RelV S' w' ρ' own' e.2 m.val) → Did P Γ B o a w tm K := by
        intro arr' clock' hrun hsz hrel
        have hle : Ble (.map nr es) (.map nr (putMi es z n)) := .inr ⟨_, _, rfl⟩
        let w' : World := { w with heap := w.heap.setIfInBounds (ρ r).blk (.map arr' clock') }
        have hkp : Keep (claim (ρ r) (.map nr es)) w w' := by
          refine ⟨rfl, rfl, rfl, by simp [w'], fun b hb => ?_⟩
          by_cases e : b = (ρ r).blk
          · subst e
            exact .inr (.inr ⟨rfl, arr, clock, _, _, g1, by simp [w', hlt]; exact ⟨rfl, rfl⟩⟩)
          · refine .inl ?_
            show (w.heap.setIfInBounds (ρ r).blk _)[b]? = w.heap[b]?
            rw [Array.getElem?_setIfInBounds_ne (Ne.symm e)]
        refine ⟨_, _, _, S, ρ, w', undef, h, hr.turn hb hle hkp (fun _ _ h => h) (fun _ _ h => .inl h) (fun b o hc => ⟨hc, hS b o hc⟩) ?_, rel_undef, .inr ⟨hrun, rfl⟩⟩
        refine ⟨fun _ => miB_putMi hmi z n, arr', clock', by simp [w', hlt], hsz, fun i e m he hm => ?_⟩
        exact hrel S w' ρ (upd r (.map nr (putMi es z n)) own) (fun x u hx => hx.keep (fun _ _ h => h) hkp hS hr.mem.lt) (fun x u hx => RelV.mono (fun _ _ h => h) hkp hS hr.mem.lt (OwnLe.upd hb hle) (fun _ _ _ => rfl) hx) i e m he hm
      rcases mi_find (z := z) es arr.toList 0 (by simpa using g2) hmi (fun i e m he hm => g3 i e m he (by simpa using hm)) with ⟨f1, f2, f3⟩ | ⟨j, m0, f1, f2, f3, f4, f5⟩
      · refine fin (arr.push { key := a.eval k, val := a.eval v, born := clock }) (clock + 1) (by simp [execOp, ho, em, ek, ev, Instr.mapUpdate, underlying, ht, getObj, Sem.run, e1, hlt, run_checkKey hkt, Instr.findKey, hkt, f1, setObj]) (by rw [f3]; simp [g2]) fun S' w' ρ' own' mt mv i e m he hm => ?_
        rw [f3] at he
        rw [Array.getElem?_push] at hm
        by_cases hi : i = arr.size
        · rw [if_pos hi] at hm
          simp at hm
          subst hm
          rw [List.getElem?_append_right (by omega)] at he
          rw [show i - es.length = 0 by omega] at he
          simp at he
          subst he
          exact ⟨mt _ _ hk.t_of, .t _ _ (mt _ _ hv.t_of)⟩
        · rw [if_neg hi] at hm
          have hlt2 : i < arr.size := by
            rcases Nat.lt_or_ge i arr.size with h | h
            · exact h
            · rw [Array.getElem?_eq_none h] at hm; cases hm
          rw [List.getElem?_append_left (by omega)] at he
          obtain ⟨p1, p2⟩ := g3 i e m he hm
          exact ⟨mt _ _ p1, mv _ _ p2⟩
      · have f2' : arr[j]? = some m0 := by simpa using f2
        have hlj : j < arr.size := by
          rcases Nat.lt_or_ge j arr.size with h | h
          · exact h
          · rw [Array.getElem?_eq_none h] at f2'; cases f2'
        have hjj : arr[j] = m0 := by
          rw [Array.getElem?_eq_getElem hlj] at f2'
          exact Option.some.inj f2'
        have hks : (Instr.keyThatStays m0.key (.int .i64 z)).run P w = .ok (.int .i64 z) w := by
          rw [f3]; simp [Instr.keyThatStays, Instr.sameBits]
        refine fin (arr.modify j fun e => { e with key := .int .i64 z, val := a.eval v }) clock (by
          simp [execOp, ho, em, ek, ev, Instr.mapUpdate, underlying, ht, getObj, Sem.run, e1, hlt, run_checkKey hkt, Instr.findKey, hkt, f1, setObj, f2', f3, Instr.keyThatStays, Instr.sameBits]) (by rw [f5]; simp [g2]) fun S' w' ρ' own' mt mv i e m he hm => ?_
        rw [f5] at he
        rw [Array.getElem?_modify] at hm
        by_cases hi : j = i
        · subst hi
          rw [if_pos rfl] at hm
          rw [f2'] at hm
          simp at hm
          subst hm
          rw [List.getElem?_set_self (by omega)] at he
          simp at he
          subst he
          rw [ev]
          exact ⟨.int _ _, .t _ _ (.int _ _)⟩
        · rw [if_neg hi] at hm
          rw [List.getElem?_set_ne hi] at he
          obtain ⟨p1, p2⟩ := g3 i e m he hm
          exact ⟨mt _ _ p1, mv _ _ p2⟩
    · exact h.elim
  · exact h.elim
theorem op_mks (hr : Rel Γ B S ρ ⟨tm, own⟩ a w) {t e : TypeId} {l c : Operand} {i : TypeInfo} {z : T} {k : Nat} {v : V} (hl : RelV S w ρ own v (a.eval l)) (hlc : a.eval c = a.eval l) (ht : P.underlying t = some (.slice e)) (hi : P.info? e = some i) (hz : zeroT P e = some z)
    (h0 : i.size ≠ 0) (hzs : z.cells.length = i.size) (hfl : z.one = true ∨ ∃ cs, z = .agg cs) (hz1 : ∀ c ∈ z.cells, c.one = true) (ho : o.op = .makeSlice t l c)
    (h : run dr (intP v fun n => .req (0 ≤ n ∧ n * (i.bytes : Int) ≤ maxBytes) (.new k (.lst i.size (List.replicate n.toNat z) 0) (.ret (.sl k 0 none)))) own log K) (hby : i.bytes ≠ 0) : Did P Γ B o a w tm K := by
  replace h := intP_elim h
  obtain ⟨kk, n, rfl, h⟩ := h
  have e1 := RelT.int_of hl.t_of
  replace h := req_elim h
  obtain ⟨⟨q1, q2⟩, h⟩ := h
  replace h := new_elim h
  obtain ⟨hf, h⟩ := h
  obtain ⟨i', zv, g1, g2, g3⟩ := zeroT_spec hz
  rw [hi] at g1; cases g1
  obtain ⟨c1, c2⟩ := RelT.cells (g3 S w) hfl
  have hb1 : (1 : Int) ≤ i.bytes := by omega
  have hmb : (maxBytes : Int) = 140737488355328 := rfl
  have hn : n ≤ 140737488355328 := by
    have : n * 1 ≤ n * (i.bytes : Int) := Int.mul_le_mul_of_nonneg_left hb1 q1
    omega
  have hwr : IntKind.i64.wrap n = n := IntWalk.i64_in n ⟨by omega, by omega⟩
  let arr : Array Value := (Array.range (n.toNat * i.size)).map (zv.cells[· % zv.cells.size]!)
  have hrun : (execOp a.eval o).run P w = .ok (.value (.slice (some ⟨w.heap.size, 0, none⟩) n.toNat n.toNat)) { w with heap := w.heap.push (.cells arr e) } := by
    have hn1 : ¬ n < 0 := by omega
    have hn2 : ¬ (281474976710656 < (i.bytes : Int) * n) := by rw [Int.mul_comm]; omega
    by_cases hz0 : n.toNat * i.size = 0
    · have hn0 : n = 0 := by
        rcases Nat.mul_eq_zero.1 hz0 with h | h
        · omega
        · exact (h0 h).elim
      subst hn0
      simp [execOp, ho, Instr.makeSlice, underlying, ht, e1, hlc, asInt, asIntOf, typeInfo, hi, hwr, hn1, hn2, sizeOf, newRow, arr]
      have e0 : Array.range 0 = #[] := rfl
      rw [e0]; simp
    · simp [execOp, ho, Instr.makeSlice, underlying, ht, e1, hlc, asInt, asIntOf, typeInfo, hi, hwr, hn1, hn2, sizeOf, newRow, hz0, zeroValue, g2, arr]
  obtain ⟨ρ', e2, hr'⟩ := new_lst hr (k := k) (sz := i.size) (C := n.toNat) (ts := List.replicate n.toNat z) (arr := arr) (e := e) hf (fun x hx => by rw [List.eq_of_mem_replicate hx]; exact ⟨hzs, hz1⟩) (by simp) (by simp [arr]) (fun j x m c hx hc => by
    rw [List.getElem?_replicate] at hx
    split at hx
    · cases hx
      have hm : m < z.cells.length := by
        rcases Nat.lt_or_ge m z.cells.length with h | h
        · exact h
        · rw [List.getElem?_eq_none h] at hc; cases hc
      have hlt : j * i.size + m < n.toNat * i.size := by
        have : (j + 1) * i.size ≤ n.toNat * i.size := Nat.mul_le_mul_right _ (by omega)
        rw [Nat.add_mul] at this; omega
      have hm2 : m < zv.cells.size := by omega
      have e3 : zv.cells[m]? = some zv.cells[m] := by simp [hm2]
      refine ⟨zv.cells[m], ?_, c2 m c _ hc e3⟩
      have hmod : (j * i.size + m) % zv.cells.size = m := by
        rw [c1, hzs, Nat.mul_comm, Nat.mul_add_mod]
        exact Nat.mod_eq_of_lt (by omega)
      simp only [arr, Array.getElem?_map, Array.getElem?_range, if_pos hlt, Option.map_some, hmod]
      simp [hm2]
    · cases hx)
  refine ⟨_, _, _, S, ρ', _, .slice (some ⟨w.heap.size, 0, none⟩) n.toNat n.toNat, h, hr', ?_, .inl hrun⟩
  have := sl_whole (S := S) (w' := { w with heap := w.heap.push (.cells arr e) }) (ρ' := ρ') (k := k) (sz := i.size) (C := n.toNat) (m := 0) (ts := List.replicate n.toNat z) (A := some ⟨w.heap.size, 0, none⟩) (own' := (k, .lst i.size (List.replicate n.toNat z) 0) :: own) (by simp [look]) (by rw [e2]) (by simp) (fun _ => ⟨_, _, rfl⟩)
  simpa using this
end
end Go.Nx
end
section
set_option linter.unusedVariables false
set_option linter.unusedSimpArgs false
namespace Go.Nx
open Go.RowKit

section
variable {P : Program} {Γ : Env} {B : Base} {S : Cells} {ρ : Infos} {tm : List V} {own : Own} {a : Act} {w : World}
variable {o : Oper} {K : V → Own → Log → Prop} {log : Log} {dr : Bool}

structure Read (S : Cells) (w : World) (size : Nat) (xs : List T) (v : Value) (news : List Value) : Prop where
  len : news.length = xs.length * size
  run : ∀ (P : Program) (w' : World), (∀ ad : Addr, w'.cell? ad = w.cell? ad) → (Builtin.firstCells size xs.length v).run P w' = .ok news.toArray w'
  rel : ∀ (i : Nat) (x : T) (j : Nat) (c : T), xs[i]? = some x → x.cells[j]? = some c → ∃ u, news[i * size + j]? = some u ∧ RelT S w c u
  one : ∀ z ∈ news, vone z = true
theorem rdl_read {sz size : Nat} {xs : List T} {v : Value} (h : Rdl S w sz xs v) (hs : xs = [] ∨ sz = size) (hp : 0 < size) : ∃ ad cap news, v = .slice ad xs.length cap ∧ xs.length ≤ cap ∧ Read S w size xs v news := by
  obtain ⟨ad, cap, e, hc, u, h1, h2⟩ := h.ex
  rcases hs with rfl | rfl
  · refine ⟨ad, cap, [], e, hc, by simp, fun P w' hw => ?_, fun i x j c hx => by simp at hx, fun z hz => by simp at hz⟩
    subst e
    cases ad with
    | none => simp [Builtin.firstCells]
    | some ad => simpa using run_firstCells_some (P := P) w' size 0 ad 0 cap [] (by simp) (fun j v hv => by simp at hv)
  · refine ⟨ad, cap, (List.range (xs.length * sz)).map (fun q => u (q / sz) (q % sz)), e, hc, by simp, fun P w' hw => ?_, fun i x j c hx hc' => ?_, fun z hz => ?_⟩
    · subst e
      cases ad with
      | none =>
        have hxs : xs = [] := by
          by_cases hn : xs = []
          · exact hn
          · obtain ⟨b, o, e, _⟩ := h1 hn; cases e
        subst hxs; simp [Builtin.firstCells]
      | some ad =>
        refine run_firstCells_some (P := P) w' sz xs.length ad xs.length cap _ (by simp) (fun q z hz => ?_)
        simp only [List.getElem?_map, Option.map_eq_some_iff] at hz
        obtain ⟨q', hq, rfl⟩ := hz
        have hq2 : q < xs.length * sz := by
          rcases Nat.lt_or_ge q (xs.length * sz) with h | h
          · exact h
          · rw [List.getElem?_eq_none (by simpa using h)] at hq; cases hq
        have : q' = q := by rw [List.getElem?_range hq2] at hq; cases hq; rfl
        subst this
        obtain ⟨b, o, e, h3⟩ := h1 (fun hn => by subst hn; simp at hq2)
        cases e
        have hd : q' / sz < xs.length := (Nat.div_lt_iff_lt_mul hp).2 hq2
        have h4 := h3 (q' / sz) (q' % sz) hd (Nat.mod_lt _ hp)
        rw [hw, add_addr]
        rw [Nat.add_assoc] at h4
        have : q' / sz * sz + q' % sz = q' := by rw [Nat.mul_comm]; exact Nat.div_add_mod q' sz
        rw [this] at h4
        exact h4
    · have hi : i < xs.length := by
        rcases Nat.lt_or_ge i xs.length with h | h
        · exact h
        · rw [List.getElem?_eq_none h] at hx; cases hx
      have hj : j < sz := by
        rw [← (h.sz x (List.mem_of_getElem? hx)).1]
        rcases Nat.lt_or_ge j x.cells.length with h | h
        · exact h
        · rw [List.getElem?_eq_none h] at hc'; cases hc'
      have hlt : i * sz + j < xs.length * sz := by
        have : (i + 1) * sz ≤ xs.length * sz := Nat.mul_le_mul_right _ hi
        rw [Nat.add_mul] at this; omega
      refine ⟨u i j, ?_, h2 i x hx j c hc'⟩
      rw [List.getElem?_map, List.getElem?_range hlt, Option.map_some]
      have e1 : (i * sz + j) / sz = i := by rw [Nat.mul_comm, Nat.mul_add_div hp, Nat.div_eq_of_lt hj]; rfl
      have e2 : (i * sz + j) % sz = j := by rw [Nat.mul_comm, Nat.mul_add_mod, Nat.mod_eq_of_lt hj]
      rw [e1, e2]
    · obtain ⟨q, hq, rfl⟩ := List.mem_map.1 hz
      have hq2 := List.mem_range.1 hq
      have hd : q / sz < xs.length := (Nat.div_lt_iff_lt_mul hp).2 hq2
      have hx : xs[q / sz]? = some xs[q / sz] := by simp [hd]
      obtain ⟨f1, f2⟩ := h.sz _ (List.mem_of_getElem? hx)
      have hm : q % sz < xs[q / sz].cells.length := by rw [f1]; exact Nat.mod_lt _ hp
      have hc' : xs[q / sz].cells[q % sz]? = some xs[q / sz].cells[q % sz] := by simp [hm]
      exact ((h2 _ _ hx _ _ hc').one (f2 _ (List.mem_of_getElem? hc'))).1

theorem app_run {c : Call} {x y : Operand} (hc : c.callee = .builtin .append) (ha : c.args = #[x, y]) {t tu : TypeId} (ht : c.argTypes = #[t, tu]) (ho : o.op = .call c) {u : Value} {w' : World} (h : (Builtin.append_ #[t, tu] o.type #[a.eval x, a.eval y]).run P w = .ok u w') :
    (execOp a.eval o).run P w = .ok (.value u) w' := by
  simp [execOp, ho, resolve, hc, ha, ht, invoke, builtin, h]
theorem app_fit {t tu ty e e2 : TypeId} {i : TypeInfo} (ht : P.underlying t = some (.slice e)) (hu : P.underlying tu = some (.slice e2)) (hi : P.info? e = some i) {base : Option Addr} {sLen sCap n cap : Nat} {ad : Option Addr} {news : List Value} {w' : World}
    (hx : (Builtin.firstCells i.size n (.slice ad n cap)).run P w = .ok news.toArray w) (hr : sLen + n ≤ sCap) (hst : ∀ b, base = some b → (storeCells (b.add (sLen * i.size)) news).run P w = .ok () w') (hb : base = none → w' = w) :
    (Builtin.append_ #[t, tu] ty #[.slice base sLen sCap, .slice ad n cap]).run P w = .ok (.slice base (sLen + n) sCap) w' := by
  cases base with
  | none =>
    have := hb rfl; subst this
    simp [Builtin.append_, run_underlying ht, run_underlying hu, sizeOf, typeInfo, hi, Builtin.lenOf, hr, hx]
  | some b =>
    simp [Builtin.append_, run_underlying ht, run_underlying hu, sizeOf, typeInfo, hi, Builtin.lenOf, hr, hx, hst b rfl]
theorem app_grow {t tu ty e e2 : TypeId} {i : TypeInfo} {z : Value} (ht : P.underlying t = some (.slice e)) (hu : P.underlying tu = some (.slice e2)) (hi : P.info? e = some i) (hz : i.zero = some z) {base : Option Addr} {sLen sCap n cap : Nat} {ad : Option Addr} {olds news : List Value}
    (hs : ∀ w' : World, (∀ ad : Addr, w'.cell? ad = w.cell? ad) → (Builtin.firstCells i.size sLen (.slice base sLen sCap)).run P w' = .ok olds.toArray w')
    (hx : ∀ w' : World, (∀ ad : Addr, w'.cell? ad = w.cell? ad) → (Builtin.firstCells i.size n (.slice ad n cap)).run P w' = .ok news.toArray w')
    (hg : sCap < sLen + n) (h63 : ((sLen + n : Nat) : Int) ≤ 9223372036854775807) (hfit : (sLen + n) * i.bytes ≤ 140737488355328) :
    (Builtin.append_ #[t, tu] ty #[.slice base sLen sCap, .slice ad n cap]).run P w =
      .ok (.slice (some ⟨w.heap.size, 0, none⟩) (sLen + n) (grownCap w (sLen + n) sCap e))
        (w.drew.alloc (.cells (olds.toArray ++ news.toArray ++ Builtin.zeroCells z.cells (grownCap w (sLen + n) sCap e - (sLen + n))) e)) := by
  have hn : ¬ (sLen + n ≤ sCap) := by omega
  have h63' : ¬ (9223372036854775807 < ((sLen : Int) + (n : Int))) := by omega
  have h48' : ¬ (281474976710656 < Builtin.nextslicecap (sLen + n) sCap * i.bytes) := by have := growslice_fits hg hfit; omega
  have hf := hx w.drew (fun _ => rfl)
  have hfo := hs w.drew (fun _ => rfl)
  simp [Builtin.append_, run_underlying ht, run_underlying hu, sizeOf, typeInfo, zeroValue, hi, hz, Builtin.lenOf, hn, h63', h48', Question.forced, hf, hfo, newRow, grownCap]
  congr 2
  apply Array.ext'
  simp [List.append_assoc]
theorem grownCap_ge (need old : Nat) (e : TypeId) : need ≤ grownCap w need old e := by
  unfold grownCap
  simp [Question.cut]
theorem zeroCells_size (z : Array Value) (n : Nat) : (Builtin.zeroCells z n).size = n * z.size := by simp [Builtin.zeroCells]

theorem two_rel {size : Nat} {ys xs : List T} {olds news : List Value} (ho : olds.length = ys.length * size) (hro : ∀ (i : Nat) (x : T) (j : Nat) (c : T), ys[i]? = some x → x.cells[j]? = some c → ∃ u, olds[i * size + j]? = some u ∧ RelT S w c u)
    (hfy : ∀ x ∈ ys, Flat size x) (hrn : ∀ (i : Nat) (x : T) (j : Nat) (c : T), xs[i]? = some x → x.cells[j]? = some c → ∃ u, news[i * size + j]? = some u ∧ RelT S w c u) (rest : Array Value) :
    ∀ (i : Nat) (x : T) (j : Nat) (c : T), (ys ++ xs)[i]? = some x → x.cells[j]? = some c → ∃ u, (olds.toArray ++ news.toArray ++ rest)[i * size + j]? = some u ∧ RelT S w c u := by
  intro i x j c hx hc
  by_cases hi : i < ys.length
  · rw [List.getElem?_append_left hi] at hx
    obtain ⟨u, h1, h2⟩ := hro i x j c hx hc
    refine ⟨u, ?_, h2⟩
    have hlt : i * size + j < olds.length := by
      rcases Nat.lt_or_ge (i * size + j) olds.length with h | h
      · exact h
      · rw [List.getElem?_eq_none h] at h1; cases h1
    rw [Array.getElem?_append_left (by simp; omega), Array.getElem?_append_left (by simpa using hlt)]
    simpa using h1
  · rw [List.getElem?_append_right (by omega)] at hx
    obtain ⟨u, h1, h2⟩ := hrn (i - ys.length) x j c hx hc
    refine ⟨u, ?_, h2⟩
    have hlt : (i - ys.length) * size + j < news.length := by
      rcases Nat.lt_or_ge ((i - ys.length) * size + j) news.length with h | h
      · exact h
      · rw [List.getElem?_eq_none h] at h1; cases h1
    have e : i * size + j = olds.length + ((i - ys.length) * size + j) := by
      rw [ho, Nat.sub_mul]
      have : ys.length * size ≤ i * size := Nat.mul_le_mul_right _ (by omega)
      omega
    rw [Array.getElem?_append_left (by simp; omega), e, Array.getElem?_append_right (by simp)]
    simpa using h1

structure ASrc (P : Program) (S : Cells) (w : World) (t tu ty e : TypeId) (i : TypeInfo) (vy : Value) (xs : List T) (news : List Value) : Prop where
  len : news.length = xs.length * i.size
  rel : ∀ (j : Nat) (x : T) (m : Nat) (c : T), xs[j]? = some x → x.cells[m]? = some c → ∃ u, news[j * i.size + m]? = some u ∧ RelT S w c u
  one : ∀ z ∈ news, vone z = true
  flat : ∀ x ∈ xs, Flat i.size x
  fit : ∀ (base : Option Addr) (sLen sCap : Nat) (w' : World), sLen + xs.length ≤ sCap → (∀ b, base = some b → (storeCells (b.add (sLen * i.size)) news).run P w = .ok () w') → (base = none → w' = w) →
    (Builtin.append_ #[t, tu] ty #[.slice base sLen sCap, vy]).run P w = .ok (.slice base (sLen + xs.length) sCap) w'
  grow : ∀ (base : Option Addr) (sLen sCap : Nat) (olds : List Value) (z : Value), i.zero = some z → (∀ w' : World, (∀ ad : Addr, w'.cell? ad = w.cell? ad) → (Builtin.firstCells i.size sLen (.slice base sLen sCap)).run P w' = .ok olds.toArray w') →
    sCap < sLen + xs.length → ((sLen + xs.length : Nat) : Int) ≤ 9223372036854775807 → (sLen + xs.length) * i.bytes ≤ 140737488355328 →
    (Builtin.append_ #[t, tu] ty #[.slice base sLen sCap, vy]).run P w =
      .ok (.slice (some ⟨w.heap.size, 0, none⟩) (sLen + xs.length) (grownCap w (sLen + xs.length) sCap e))
        (w.drew.alloc (.cells (olds.toArray ++ news.toArray ++ Builtin.zeroCells z.cells (grownCap w (sLen + xs.length) sCap e - (sLen + xs.length))) e))
theorem asrc_rdl {t tu ty e e2 : TypeId} {i : TypeInfo} (ht : P.underlying t = some (.slice e)) (hu : P.underlying tu = some (.slice e2)) (hi : P.info? e = some i) {sz : Nat} {xs : List T} {v : Value} (h : Rdl S w sz xs v) (hs : xs = [] ∨ sz = i.size) (hp : 0 < i.size) : ∃ news, ASrc P S w t tu ty e i v xs news := by
  obtain ⟨ad, cap, news, e1, _, rx⟩ := rdl_read h hs hp
  refine ⟨news, rx.len, rx.rel, rx.one, fun x hx => ?_, fun base sLen sCap w' h1 h2 h3 => ?_, fun base sLen sCap olds z hz h1 h2 h3 h4 => ?_⟩
  · rcases hs with rfl | rfl
    · simp at hx
    · exact h.sz x hx
  · rw [e1]; exact app_fit (ty := ty) ht hu hi (e1 ▸ rx.run P w (fun _ => rfl)) h1 h2 h3
  · rw [e1]; exact app_grow (ty := ty) ht hu hi hz h1 (fun w' hw => e1 ▸ rx.run P w' hw) h2 h3 h4
theorem asrc_zerosN {t tu ty e : TypeId} {i : TypeInfo} {k kn : IntKind} (ht : P.underlying t = some (.slice e)) (htn : P.underlying tu = some (.int kn)) (hi : P.info? e = some i) {z : T} (hz : zeroT P e = some z) (h0 : i.size ≠ 0) (hzs : z.cells.length = i.size)
    (hfl : z.one = true ∨ ∃ cs, z = .agg cs) (hz1 : ∀ c ∈ z.cells, c.one = true) {n : Nat} (q2 : n ≤ 140737488355328) (q3 : n * i.bytes ≤ 140737488355328) :
    ∃ news, ASrc P S w t tu ty e i (.int k n) (List.replicate n z) news := by
  obtain ⟨i', zv, g1, g2, g3⟩ := zeroT_spec hz
  rw [hi] at g1; cases g1
  obtain ⟨c1, c2⟩ := RelT.cells (g3 S w) hfl
  have hwr : IntKind.i64.wrap (n : Int) = n := IntWalk.i64_in n ⟨by omega, by omega⟩
  have hwr0 : IntKind.i64.wrap 0 = 0 := rfl
  have hn1 : ¬ (n : Int) < 0 := by omega
  have hn2 : ¬ (281474976710656 < (n : Int) * (i.bytes : Int)) := by rw [← Int.natCast_mul]; omega
  refine ⟨(Builtin.zeroCells zv.cells n).toList, ?_, fun j x m c hx hc => ?_, fun y hy => ?_, fun x hx => ?_, fun base sLen sCap w' h1 h2 h3 => ?_, fun base sLen sCap olds z' hz' h1 h2 h3 h4 => ?_⟩
  · simp [zeroCells_size, c1, hzs]
  · rw [List.getElem?_replicate] at hx
    split at hx
    · rename_i hj
      cases hx
      have hm : m < z.cells.length := by
        rcases Nat.lt_or_ge m z.cells.length with h | h
        · exact h
        · rw [List.getElem?_eq_none h] at hc; cases hc
      have hlt : j * i.size + m < n * zv.cells.size := by
        have : (j + 1) * i.size ≤ n * i.size := Nat.mul_le_mul_right _ (by omega)
        rw [Nat.add_mul] at this; rw [c1, hzs]; omega
      have hm2 : m < zv.cells.size := by omega
      have e3 : zv.cells[m]? = some zv.cells[m] := by simp [hm2]
      have e4 : (j * i.size + m) % zv.cells.size = m := by
        rw [show i.size = zv.cells.size by rw [c1, hzs], Nat.mul_comm, Nat.mul_add_mod]
        exact Nat.mod_eq_of_lt hm2
      refine ⟨zv.cells[m], ?_, c2 m c _ hc e3⟩
      simp [Builtin.zeroCells, hlt, e4, hm2]
    · cases hx
  · simp only [Builtin.zeroCells, Array.toList_map, Array.toList_range, List.mem_map, List.mem_range] at hy
    obtain ⟨q, hq, rfl⟩ := hy
    have hp : 0 < zv.cells.size := by rw [c1, hzs]; omega
    have hm2 : q % zv.cells.size < zv.cells.size := Nat.mod_lt _ hp
    have hm3 : q % zv.cells.size < z.cells.length := by omega
    have e3 : zv.cells[q % zv.cells.size]? = some zv.cells[q % zv.cells.size] := by simp [hm2]
    have e4 : z.cells[q % zv.cells.size]? = some z.cells[q % zv.cells.size] := by simp [hm3]
    have := ((c2 _ _ _ e4 e3).one (hz1 _ (List.mem_of_getElem? e4))).1
    rw [getElem!_pos zv.cells _ hm2]
    exact this
  · rw [List.eq_of_mem_replicate hx]; exact ⟨hzs, hz1⟩
  · rw [List.length_replicate] at h1 ⊢
    by_cases hz0 : n * i.size = 0
    · have hn0 : n = 0 := by
        rcases Nat.mul_eq_zero.1 hz0 with h | h
        · omega
        · exact (h0 h).elim
      subst hn0
      have hne : (Builtin.zeroCells zv.cells 0).toList = [] := by simp [Builtin.zeroCells]
      rw [hne] at h2
      cases base with
      | none =>
        have := h3 rfl; subst this
        simp [Builtin.append_, run_underlying ht, run_underlying htn, sizeOf, typeInfo, hi, asInt, asIntOf, hwr, hwr0, show sLen ≤ sCap from by simpa using h1]
      | some b =>
        have := h2 b rfl
        simp [Builtin.append_, run_underlying ht, run_underlying htn, sizeOf, typeInfo, hi, asInt, asIntOf, hwr, hwr0, show sLen ≤ sCap from by simpa using h1, this]
    · cases base with
      | none =>
        have := h3 rfl; subst this
        simp [Builtin.append_, run_underlying ht, run_underlying htn, sizeOf, typeInfo, zeroValue, hi, g2, asInt, asIntOf, hwr, hn1, hn2, hz0, h1]
      | some b =>
        have := h2 b rfl
        simp [Builtin.append_, run_underlying ht, run_underlying htn, sizeOf, typeInfo, zeroValue, hi, g2, asInt, asIntOf, hwr, hn1, hn2, hz0, h1, this]
  · rw [List.length_replicate] at h2 h3 h4 ⊢
    rw [g2] at hz'; cases hz'
    have hn : ¬ (sLen + n ≤ sCap) := by omega
    have h63' : ¬ (9223372036854775807 < ((sLen : Int) + (n : Int))) := by omega
    have h48' : ¬ (281474976710656 < Builtin.nextslicecap (sLen + n) sCap * i.bytes) := by have := growslice_fits h2 h4; omega
    have hfo := h1 w.drew (fun _ => rfl)
    by_cases hz0 : n * i.size = 0
    · have hn0 : n = 0 := by
        rcases Nat.mul_eq_zero.1 hz0 with h | h
        · omega
        · exact (h0 h).elim
      subst hn0
      have hne : Builtin.zeroCells zv.cells 0 = #[] := by simp [Builtin.zeroCells]
      have hn' : ¬ (sLen ≤ sCap) := by simpa using hn
      have h63'' : ¬ (9223372036854775807 < (sLen : Int)) := by simpa using h63'
      have h48'' : ¬ (281474976710656 < Builtin.nextslicecap sLen sCap * i.bytes) := by simpa using h48'
      simp [Builtin.append_, run_underlying ht, run_underlying htn, sizeOf, typeInfo, zeroValue, hi, g2, asInt, asIntOf, hwr, hwr0, hn', h63'', h48'', Question.forced, hfo, newRow, grownCap, hne]
    · simp [Builtin.append_, run_underlying ht, run_underlying htn, sizeOf, typeInfo, zeroValue, hi, g2, asInt, asIntOf, hwr, hn1, hn2, hn, h63', h48', hz0, Question.forced, hfo, newRow, grownCap]

theorem asrc_zeros {t tu ty e : TypeId} {i : TypeInfo} {k kn : IntKind} (ht : P.underlying t = some (.slice e)) (htn : P.underlying tu = some (.int kn)) (hi : P.info? e = some i) {z : T} (hz : zeroT P e = some z) (h0 : i.size ≠ 0) (hzs : z.cells.length = i.size)
    (hfl : z.one = true ∨ ∃ cs, z = .agg cs) (hz1 : ∀ c ∈ z.cells, c.one = true) {n : Int} (q1 : 0 ≤ n) (q2 : n ≤ 140737488355328) (q3 : n * (i.bytes : Int) ≤ 140737488355328) :
    ∃ news, ASrc P S w t tu ty e i (.int k n) (List.replicate n.toNat z) news := by
  obtain ⟨m, rfl⟩ := Int.eq_ofNat_of_zero_le q1
  rw [Int.toNat_natCast]
  rw [← Int.natCast_mul] at q3
  exact asrc_zerosN ht htn hi hz h0 hzs hfl hz1 (by omega) (by omega)

theorem grew {t tu ty e : TypeId} {i : TypeInfo} {z : Value} (ht : P.underlying t = some (.slice e)) (hi : P.info? e = some i) (hz : i.zero = some z) (hzs : z.cells.size = i.size) (hp : 0 < i.bytes) {ys xs : List T} {vs vx : Value} {olds news : List Value} {base : Option Addr} {sCap : Nat}
    (hvs : vs = .slice base ys.length sCap) (rx : ASrc P S w t tu ty e i vx xs news) (ry : Read S w i.size ys vs olds) (hfy : ∀ x ∈ ys, Flat i.size x) (hfx : ∀ x ∈ xs, Flat i.size x)
    (hg : sCap < ys.length + xs.length) (hfit : (ys.length + xs.length) * i.bytes ≤ maxBytes) :
    ∃ C arr w', (Builtin.append_ #[t, tu] ty #[vs, vx]).run P w = .ok (.slice (some ⟨w.heap.size, 0, none⟩) (ys ++ xs).length C) w' ∧ w' = { w with drawn := w.drawn + 1, heap := w.heap.push (.cells arr e) } ∧ (ys ++ xs).length ≤ C ∧ C * i.size ≤ arr.size ∧
      ∀ (q : Nat) (x : T) (j : Nat) (c : T), (ys ++ xs)[q]? = some x → x.cells[j]? = some c → ∃ u, arr[q * i.size + j]? = some u ∧ RelT S w c u := by
  subst hvs
  have hm : maxBytes = 140737488355328 := rfl
  have hle : ys.length + xs.length ≤ (ys.length + xs.length) * i.bytes := Nat.le_mul_of_pos_right _ hp
  have hr := rx.grow base ys.length sCap olds z hz (fun w' hw => ry.run P w' hw) hg (by omega) (by omega)
  have hge := grownCap_ge (w := w) (ys.length + xs.length) sCap e
  refine ⟨grownCap w (ys.length + xs.length) sCap e, _, _, by rw [List.length_append]; exact hr, rfl, by rw [List.length_append]; exact hge, ?_, two_rel ry.len ry.rel hfy rx.rel _⟩
  simp only [Array.size_append, List.size_toArray, ry.len, rx.len, zeroCells_size, hzs]
  rw [← Nat.add_mul, ← Nat.add_mul]
  exact Nat.mul_le_mul_right _ (by omega)
theorem keep_grew (C : Cells) (n : Nat) (ob : Obj) : Keep C w { w with drawn := n, heap := w.heap.push ob } :=
  ⟨rfl, rfl, rfl, by simp, fun b hb => .inl (by simp [Array.getElem?_push, Nat.ne_of_lt hb])⟩

theorem new_grown (hr : Rel Γ B S ρ ⟨tm, own⟩ a w) {k sz C n : Nat} {ts : List T} {arr : Array Value} {e : TypeId} (hf : look k own = none) (hsz : ∀ x ∈ ts, Flat sz x) (hC : ts.length ≤ C) (hC0 : C * sz ≤ arr.size)
    (h : ∀ (i : Nat) (x : T) (j : Nat) (c : T), ts[i]? = some x → x.cells[j]? = some c → ∃ v, arr[i * sz + j]? = some v ∧ RelT S w c v) :
    ∃ ρ' : Infos, ρ' k = ⟨w.heap.size, .slice (some ⟨w.heap.size, 0, none⟩) ts.length C⟩ ∧ Rel Γ B S ρ' ⟨tm, (k, .lst sz ts 0) :: own⟩ a { w with drawn := n, heap := w.heap.push (.cells arr e) } := by
  have hk := keep_grew (w := w) (fun _ _ => False) n (.cells arr e)
  exact hr.grow (k := k) (blk := .lst sz ts 0) (S' := S) ⟨w.heap.size, .slice (some ⟨w.heap.size, 0, none⟩) ts.length C⟩ hf hk (fun _ _ h => h) (fun _ _ h => .inl h)
    (fun b o hc => by
      have hc' : b = w.heap.size := hc.1
      subst hc'
      exact ⟨Nat.le_refl _, by simp, fun hs => by have := hr.mem.lt _ _ hs; omega⟩)
    (fun ρ' e1 e2 => by
      refine ⟨hsz, some ⟨w.heap.size, 0, none⟩, C, by rw [e1], hC, .inr ⟨by rw [e1], arr, e, by rw [e1]; simp, hC0, fun i x j c hx hc => ?_⟩⟩
      obtain ⟨v, h1, h2⟩ := h i x j c hx hc
      exact ⟨v, h1, h2.keep (fun _ _ h => h) hk (fun _ _ h => h.elim) hr.mem.lt⟩)
theorem relB_settled {k sz C n : Nat} {ts : List T} {arr : Array Value} {e : TypeId} {ρ' : Infos} {own' : Own} {S' : Cells} (hS : ∀ b o, S b o → S' b o) (hS2 : ∀ o, o < ts.length * sz → S' w.heap.size o) (hlt : ∀ b o, S b o → b < w.heap.size) (hρ : ρ' k = ⟨w.heap.size, .slice (some ⟨w.heap.size, 0, none⟩) ts.length C⟩)
    (hsz : ∀ x ∈ ts, Flat sz x) (hC : ts.length ≤ C) (hC0 : C * sz ≤ arr.size) (h : ∀ (i : Nat) (x : T) (j : Nat) (c : T), ts[i]? = some x → x.cells[j]? = some c → ∃ v, arr[i * sz + j]? = some v ∧ RelT S w c v) :
    RelB S' { w with drawn := n, heap := w.heap.push (.cells arr e) } ρ' own' k (.lst sz ts 1) := by
  have hk := keep_grew (w := w) (fun _ _ => False) n (.cells arr e)
  have hlen : ts.length * sz ≤ C * sz := Nat.mul_le_mul_right _ hC
  refine ⟨?_, fun b o sp m cap hrv => ?_, fun m cap hrv => ?_⟩
  · rw [hρ]
    refine .list sz ts _ C (fun i j => (arr[i * sz + j]?).getD undef) hC (fun hne => ⟨w.heap.size, 0, rfl, fun i j hi hj => ?_⟩) hsz fun i x hx j c hc => ?_
    · have hb : i * sz + j < ts.length * sz := by
        have : (i + 1) * sz ≤ ts.length * sz := Nat.mul_le_mul_right _ hi
        rw [Nat.add_mul] at this; omega
      refine ⟨hS2 _ (by omega), ?_⟩
      rw [Nat.zero_add, cell?_eq]
      have hlt : i * sz + j < arr.size := by omega
      simp [hlt]
    · obtain ⟨v, g1, g2⟩ := h i x j c hx hc
      simp only [g1, Option.getD_some]
      exact g2.keep hS hk (fun _ _ h => h.elim) hlt
  · rw [hρ] at hrv
    simp only [Value.slice.injEq, Option.some.injEq, Addr.mk.injEq] at hrv
    obtain ⟨⟨rfl, rfl, rfl⟩, _, rfl⟩ := hrv
    exact .inr ⟨rfl, arr, e, by simp, by omega⟩
  · rw [hρ] at hrv; simp at hrv
theorem new_settled (hr : Rel Γ B S ρ ⟨tm, own⟩ a w) {k sz C n : Nat} {ts : List T} {arr : Array Value} {e : TypeId} (hf : look k own = none) (hsz : ∀ x ∈ ts, Flat sz x) (hC : ts.length ≤ C) (hC0 : C * sz ≤ arr.size)
    (h : ∀ (i : Nat) (x : T) (j : Nat) (c : T), ts[i]? = some x → x.cells[j]? = some c → ∃ v, arr[i * sz + j]? = some v ∧ RelT S w c v) :
    ∃ (ρ' : Infos) (S' : Cells), ρ' k = ⟨w.heap.size, .slice (some ⟨w.heap.size, 0, none⟩) ts.length C⟩ ∧ Rel Γ B S' ρ' ⟨tm, (k, .lst sz ts 1) :: own⟩ a { w with drawn := n, heap := w.heap.push (.cells arr e) } := by
  have hk := keep_grew (w := w) (fun _ _ => False) n (.cells arr e)
  have hS : ∀ b o, S b o → S b o ∨ (b = w.heap.size ∧ o < ts.length * sz) := fun _ _ h => .inl h
  obtain ⟨ρ', h1, h2⟩ := hr.grow (k := k) (blk := .lst sz ts 1) (S' := fun b o => S b o ∨ (b = w.heap.size ∧ o < ts.length * sz)) ⟨w.heap.size, .slice (some ⟨w.heap.size, 0, none⟩) ts.length C⟩ hf hk hS
    (fun b o h => h.imp id fun h => ⟨by omega, by simp; omega⟩)
    (fun b o hc => by
      obtain ⟨o', sp, m, cap, e1, g1, g2⟩ := hc
      simp only [Value.slice.injEq, Option.some.injEq, Addr.mk.injEq] at e1
      obtain ⟨⟨rfl, rfl, _⟩, rfl, rfl⟩ := e1
      refine ⟨Nat.le_refl _, by simp, fun hs => ?_⟩
      rcases hs with hs | hs
      · have := hr.mem.lt _ _ hs; omega
      · omega)
    (fun ρ' e1 e2 => relB_settled hS (fun o ho => .inr ⟨rfl, ho⟩) hr.mem.lt e1 hsz hC hC0 h)
  exact ⟨ρ', _, h1, h2⟩
end
end Go.Nx
end
section
set_option linter.unusedVariables false
set_option linter.unusedSimpArgs false
namespace Go.Nx
open Go.RowKit

section
variable {P : Program} {Γ : Env} {B : Base} {S : Cells} {ρ : Infos} {tm : List V} {own : Own} {a : Act} {w : World}
variable {o : Oper} {K : V → Own → Log → Prop} {log : Log} {dr : Bool}

theorem read_nil {size : Nat} {base : Option Addr} {c : Nat} : Read S w size [] (.slice base 0 c) [] := by
  refine ⟨by simp, fun P w' hw => ?_, fun i x j c hx => by simp at hx, fun z hz => by simp at hz⟩
  cases base with
  | none => simp [Builtin.firstCells]
  | some ad => simpa using run_firstCells_some (P := P) w' size 0 ad 0 c [] (by simp) (fun j v hv => by simp at hv)
theorem stC_nil {ad : Addr} : (storeCells ad []).run P w = .ok () w := by simp [storeCells]

theorem app_fresh (hr : Rel Γ B S ρ ⟨tm, own⟩ a w) {x y : Operand} {c : Call} {t tu e : TypeId} {i : TypeInfo} {z : Value} (hc : c.callee = .builtin .append) (ha : c.args = #[x, y]) (ht0 : c.argTypes = #[t, tu]) (ho : o.op = .call c)
    (ht : P.underlying t = some (.slice e)) (hi : P.info? e = some i) (hz : i.zero = some z) (hzs : z.cells.size = i.size) (hp : 0 < i.bytes) (hsz : 0 < i.size) {base : Option Addr} (hx : a.eval x = .slice base 0 0)
    {xs : List T} {news : List Value} (AS : ASrc P S w t tu o.type e i (a.eval y) xs news) {k : Nat} (h : run dr (.req (xs.length * i.bytes ≤ maxBytes) (.new k (.lst i.size xs 0) (.ret (.sl k 0 none)))) own log K) : Did P Γ B o a w tm K := by
  replace h := req_elim h
  obtain ⟨hb, h⟩ := h
  replace h := new_elim h
  obtain ⟨hf, h⟩ := h
  by_cases hxs : xs = []
  · subst hxs
    have hn : news = [] := List.eq_nil_of_length_eq_zero (by simpa using AS.len)
    subst hn
    have hrun := app_run (o := o) hc ha ht0 ho (by rw [hx]; exact AS.fit _ _ _ _ (Nat.le_refl 0) (fun b hb => stC_nil) (fun _ => rfl))
    obtain ⟨ρ', h1, h2⟩ := hr.grow (k := k) (blk := .lst i.size [] 0) (w' := w) (S' := S) ⟨0, .slice base 0 0⟩ hf (.refl _ w) (fun _ _ h => h) (fun _ _ h => .inl h)
      (fun b o hc => by
        obtain ⟨_, _, _, c, e, hne⟩ := hc
        simp only [Value.slice.injEq] at e
        exact (hne e.2.2.symm).elim)
      (fun ρ' e1 e2 => ⟨fun x hx => by simp at hx, base, 0, by rw [e1]; rfl, Nat.le_refl _, .inl rfl⟩)
    exact ⟨_, _, _, S, ρ', w, _, h, h2, sl_whole (C := 0) (A := base) (m := 0) (sz := i.size) (ts := []) (by simp [look]) (by rw [h1]; rfl) (Nat.le_refl _) (fun h => by omega), .inl hrun⟩
  · have hpos : 0 < xs.length := List.length_pos_iff.2 hxs
    have hflat : ∀ x ∈ xs, Flat i.size x := fun x hx => by
      exact AS.flat x hx
    obtain ⟨C, arr, w', g1, g2, g3, g4, g5⟩ := grew (ty := o.type) (S := S) ht hi hz hzs hp (ys := []) (xs := xs) hx AS (hx ▸ read_nil) (fun x hx => by simp at hx) hflat (by simpa using hpos) (by simpa using hb)
    simp only [List.nil_append] at g1 g3 g5
    have hrun := app_run (o := o) hc ha ht0 ho g1
    subst g2
    obtain ⟨ρ', h1, h2⟩ := new_grown (n := w.drawn + 1) (e := e) hr hf hflat g3 g4 g5
    exact ⟨_, _, _, S, ρ', _, _, h, h2, sl_whole (m := 0) (sz := i.size) (ts := xs) (by simp [look]) (by rw [h1]) g3 (fun _ => ⟨_, _, rfl⟩), .inl hrun⟩

theorem app_cl (hr : Rel Γ B S ρ ⟨tm, own⟩ a w) {x y : Operand} {c : Call} {t tu e : TypeId} {i : TypeInfo} {z : Value} (hc : c.callee = .builtin .append) (ha : c.args = #[x, y]) (ht0 : c.argTypes = #[t, tu]) (ho : o.op = .call c)
    (ht : P.underlying t = some (.slice e)) (hi : P.info? e = some i) (hz : i.zero = some z) (hzs : z.cells.size = i.size) (hp : 0 < i.bytes) (hsz : 0 < i.size) {ys : List T} (hx : RelV S w ρ own (.cl i.size ys) (a.eval x))
    {xs : List T} {news : List Value} (AS : ASrc P S w t tu o.type e i (a.eval y) xs news) {k : Nat} (h : run dr (.req ((ys.length + xs.length) * i.bytes ≤ maxBytes) (.new k (.lst i.size (ys ++ xs) 1) (.ret (.sl k 0 none)))) own log K) : Did P Γ B o a w tm K := by
  replace h := req_elim h
  obtain ⟨hb, h⟩ := h
  replace h := new_elim h
  obtain ⟨hf, h⟩ := h
  obtain ⟨hT, base, hbase⟩ := cl_of hx
  by_cases hxs : xs = []
  · subst hxs
    have hn : news = [] := List.eq_nil_of_length_eq_zero (by simpa using AS.len)
    subst hn
    have hrun := app_run (o := o) hc ha ht0 ho (by rw [hbase]; exact AS.fit _ _ _ _ (by simp) (fun b hb => stC_nil) (fun _ => rfl))
    rw [hbase] at hT
    obtain ⟨ρ', h1, h2⟩ := hr.grow (k := k) (blk := .lst i.size (ys ++ []) 1) (w' := w) (S' := S) ⟨0, .slice base ys.length ys.length⟩ hf (.refl _ w) (fun _ _ h => h) (fun _ _ h => .inl h)
      (fun b o hc => by
        obtain ⟨o', sp, n, cap, e, g1, g2⟩ := hc
        simp only [Value.slice.injEq] at e
        obtain ⟨_, rfl, rfl⟩ := e
        omega)
      (fun ρ' e1 e2 => by
        refine ⟨by rw [e1]; simpa using hT, fun b o sp n cap hrv => ?_, fun n cap hrv => ?_⟩
        · rw [e1] at hrv; simp only [Value.slice.injEq] at hrv; exact .inl (by rw [← hrv.2.1, ← hrv.2.2])
        · rw [e1] at hrv
          simp only [Value.slice.injEq] at hrv
          obtain ⟨e3, _, rfl⟩ := hrv
          obtain ⟨_, _, _, u, g3, _⟩ := hT.list_of
          by_cases hn : ys = []
          · subst hn; rfl
          · obtain ⟨b, o, e4, _⟩ := g3 hn
            rw [e3] at e4; cases e4)
    refine ⟨_, _, _, S, ρ', w, _, h, h2, ?_, .inl hrun⟩
    have hA : 0 < ys.length → ∃ b o, base = some ⟨b, o, none⟩ := fun hl => by
      obtain ⟨_, _, _, u, g3, _⟩ := hT.list_of
      obtain ⟨b, o, e4, _⟩ := g3 (List.length_pos_iff.1 hl)
      exact ⟨b, o, e4⟩
    have := sl_whole (S := S) (w' := w) (ρ' := ρ') (C := ys.length) (A := base) (m := 1) (sz := i.size) (ts := ys ++ []) (own' := (k, .lst i.size (ys ++ []) 1) :: own) (k := k) (by simp [look]) (by rw [h1]; simp) (by simp) hA
    simpa using this
  · have hpos : 0 < xs.length := List.length_pos_iff.2 hxs
    obtain ⟨_, _, olds, e2, _, ry⟩ := rdl_read (rdl_of_t hT) (.inr rfl) hsz
    have hflat : ∀ x ∈ ys ++ xs, Flat i.size x := fun x hx => by
      rcases List.mem_append.1 hx with hx | hx
      · exact (rdl_of_t hT).sz x hx
      · exact AS.flat x hx
    obtain ⟨C, arr, w', g1, g2, g3, g4, g5⟩ := grew (ty := o.type) (S := S) ht hi hz hzs hp hbase AS ry (fun x hx => hflat x (by simp [hx])) (fun x hx => hflat x (by simp [hx])) (by omega) hb
    have hrun := app_run (o := o) hc ha ht0 ho g1
    subst g2
    obtain ⟨ρ', S', h1, h2⟩ := new_settled (n := w.drawn + 1) (e := e) hr hf hflat g3 g4 g5
    exact ⟨_, _, _, S', ρ', _, _, h, h2, sl_whole (m := 1) (sz := i.size) (ts := ys ++ xs) (by simp [look]) (by rw [h1]) g3 (fun _ => ⟨_, _, rfl⟩), .inl hrun⟩

theorem app_own (hr : Rel Γ B S ρ ⟨tm, own⟩ a w) {x y : Operand} {c : Call} {t tu e : TypeId} {i : TypeInfo} {z : Value} (hc : c.callee = .builtin .append) (ha : c.args = #[x, y]) (ht0 : c.argTypes = #[t, tu]) (ho : o.op = .call c)
    (ht : P.underlying t = some (.slice e)) (hi : P.info? e = some i) (hz : i.zero = some z) (hzs : z.cells.size = i.size) (hp : 0 < i.bytes) (hsz : 0 < i.size) {k : Nat} {ts : List T} (hx : RelV S w ρ own (.sl k 0 none) (a.eval x)) (hl : look k own = some (.lst i.size ts 0))
    {xs : List T} {news : List Value} (AS : ASrc P S w t tu o.type e i (a.eval y) xs news) {k' : Nat} (hfit : (ts.length + xs.length) * i.bytes ≤ maxBytes) (hf : look k' (upd k .gone own) = none) (h : K (.sl k' 0 none) ((k', .lst i.size (ts ++ xs) 0) :: upd k .gone own) log) : Did P Γ B o a w tm K := by
  have hf' : look k' own = none := by
    rw [look_upd hl] at hf
    split at hf
    · cases hf
    · exact hf
  have hs0 := sl_of hx hl
  have hs1 := hs0
  obtain ⟨a0, n0, c0, e0, hnc, q1, q2, q3, A, C, q4, q5, q6, q7⟩ := hs0
  have hB := hr.mem.blk k _ hl
  obtain ⟨hflt, A', C', k1, k2, k3⟩ := hB
  rw [q4] at k1
  simp only [Value.slice.injEq] at k1
  obtain ⟨rfl, _, rfl⟩ := k1
  have hn0 := q2 rfl
  have hc0 := q5 rfl
  simp only [Nat.sub_zero] at hn0 hc0
  subst hn0 hc0
  have hflat : ∀ x ∈ ts ++ xs, Flat i.size x := fun x hx => by
    rcases List.mem_append.1 hx with hx | hx
    · exact hflt x hx
    · exact AS.flat x hx
  have hgone : ∀ b o, ¬ claim (ρ k) Blk.gone b o := fun b o h => h
  by_cases hroom : ts.length + xs.length ≤ c0
  · -- in place
    by_cases hC : c0 = 0
    · subst hC
      have ht0' : ts = [] := List.eq_nil_of_length_eq_zero (by omega)
      have hx0 : xs = [] := List.eq_nil_of_length_eq_zero (by omega)
      subst ht0' hx0
      have hn : news = [] := List.eq_nil_of_length_eq_zero (by simpa using AS.len)
      subst hn
      have hrun := app_run (o := o) hc ha ht0 ho (by rw [e0]; exact AS.fit _ _ _ _ (by simp) (fun b hb => stC_nil) (fun _ => rfl))
      obtain ⟨ρ', h1, h2, h3⟩ := hr.hand (k := k) (k' := k') (blk2 := .gone) (blk' := .lst i.size ([] ++ []) 0) (w' := w) (S' := S) ⟨0, .slice a0 0 0⟩ hl hf' (Ble.gone _) (.refl _ w) (fun _ _ h => h) (fun _ _ h => .inl h) hgone
        (fun b o hc => by
          obtain ⟨_, _, _, c, e, hne⟩ := hc
          simp only [Value.slice.injEq] at e
          exact (hne e.2.2.symm).elim)
        (fun _ _ _ => trivial) (fun ρ' e1 e2 => ⟨fun x hx => by simp at hx, a0, 0, by rw [e1]; rfl, by simp, .inl rfl⟩)
      exact ⟨_, _, _, S, ρ', w, _, h, h3, sl_whole (C := 0) (A := a0) (m := 0) (sz := i.size) (ts := []) (by simp [look]) (by rw [h1]; rfl) (Nat.le_refl _) (fun h => by omega), .inl hrun⟩
    · rcases k3 with k3 | ⟨k3, arr, et, k4, k5, k6⟩
      · exact (hC k3).elim
      · subst k3
        obtain ⟨b', o', p1, p2⟩ := q7 (by omega)
        simp only [Option.some.injEq, Addr.mk.injEq] at p1
        obtain ⟨rfl, rfl, _⟩ := p1
        simp only [Nat.zero_mul, Nat.add_zero] at p2
        subst p2
        have hlen : (ts.length + xs.length) * i.size ≤ c0 * i.size := Nat.mul_le_mul_right _ hroom
        rw [Nat.add_mul] at hlen
        have hnl := AS.len
        obtain ⟨w', r1, r2, r3⟩ := run_storeCells1 (P := P) (off := ts.length * i.size) news 0 w arr k4 (by omega) AS.one
        rw [Nat.add_zero] at r2
        have hrun := app_run (o := o) hc ha ht0 ho (by rw [e0]; exact AS.fit _ _ _ _ hroom (fun b hb => by cases hb; rw [add_addr, Nat.zero_add]; exact r1) (fun h => by cases h))
        have hcl : claim (ρ k) (.lst i.size ts 0) = fun b _ => b = (ρ k).blk := by
          funext b o
          apply propext
          exact ⟨fun h => h.1, fun h => ⟨h, _, _, _, q4, hC⟩⟩
        have hS : ∀ b o, claim (ρ k) (.lst i.size ts 0) b o → ¬ S b o := fun b o hc hs => (hr.mem.cl k _ hl b o hc).2 hs
        have l1 : ts.length * i.size + news.length ≤ arr.toList.length := by simp; omega
        obtain ⟨ρ', h1, h2, h3⟩ := hr.hand (k := k) (k' := k') (blk2 := .gone) (blk' := .lst i.size (ts ++ xs) 0) (w' := w') (S' := S) ⟨(ρ k).blk, .slice (some ⟨(ρ k).blk, 0, none⟩) (ts ++ xs).length c0⟩ hl hf' (Ble.gone _) (by rw [hcl]; exact r3) (fun _ _ h => h) (fun _ _ h => .inl h) hgone
          (fun b o hc => by
            have : claim (ρ k) (.lst i.size ts 0) b o := by rw [hcl]; exact hc.1
            exact ⟨.inl this, hS b o this⟩)
          (fun _ _ _ => trivial)
          (fun ρ' e1 e2 => by
            refine ⟨hflat, _, c0, by rw [e1], by rw [List.length_append]; exact hroom, .inr ⟨by rw [e1], _, et, by rw [e1]; exact r2, by simp [putN_length _ _ _ (Or.inr l1)]; exact k5, fun q x j c hq hc => ?_⟩⟩
            have mono : ∀ c u, RelT S w c u → RelT S w' c u := fun c u hcu => hcu.keep (fun _ _ h => h) r3 (fun b o hb hs => hS b o (by rw [hcl]; exact hb) hs) hr.mem.lt
            simp only [List.getElem?_toArray]
            rw [putN_get _ _ _ _ l1]
            have hj : j < i.size := by
              rw [← (hflat x (List.mem_of_getElem? hq)).1]
              rcases Nat.lt_or_ge j x.cells.length with h | h
              · exact h
              · rw [List.getElem?_eq_none h] at hc; cases hc
            by_cases hi2 : q < ts.length
            · rw [List.getElem?_append_left hi2] at hq
              obtain ⟨u, g1, g2⟩ := k6 q x j c hq hc
              refine ⟨u, ?_, mono _ _ g2⟩
              have : (q + 1) * i.size ≤ ts.length * i.size := Nat.mul_le_mul_right _ hi2
              rw [Nat.add_mul] at this
              rw [if_neg (by omega)]
              simpa using g1
            · rw [List.getElem?_append_right (by omega)] at hq
              obtain ⟨u, g1, g2⟩ := AS.rel _ x j c hq hc
              refine ⟨u, ?_, mono _ _ g2⟩
              have hge : ts.length * i.size ≤ q * i.size := Nat.mul_le_mul_right _ (by omega)
              have hlt : (q - ts.length) * i.size + j < news.length := by
                rcases Nat.lt_or_ge ((q - ts.length) * i.size + j) news.length with h | h
                · exact h
                · rw [List.getElem?_eq_none h] at g1; cases g1
              rw [Nat.sub_mul] at g1 hlt
              rw [if_pos (by omega)]
              rw [show q * i.size + j - ts.length * i.size = q * i.size - ts.length * i.size + j by omega]
              exact g1)
        refine ⟨_, _, _, S, ρ', w', _, h, h3, ?_, .inl hrun⟩
        have := sl_whole (S := S) (w' := w') (ρ' := ρ') (k := k') (C := c0) (A := some ⟨(ρ k).blk, 0, none⟩) (m := 0) (sz := i.size) (ts := ts ++ xs) (own' := (k', .lst i.size (ts ++ xs) 0) :: upd k .gone own) (by simp [look]) (by rw [h1]) (by rw [List.length_append]; exact hroom) (fun _ => ⟨_, _, rfl⟩)
        simpa using this
  · -- a new row
    obtain ⟨_, _, olds, e2, _, ry⟩ := rdl_read (lst0_sub hr hl hs1) (.inr rfl) hsz
    have hsub : subL ts 0 none = ts := rfl
    rw [hsub] at ry
    obtain ⟨C2, arr, w', g1, g2, g3, g4, g5⟩ := grew (ty := o.type) (S := S) ht hi hz hzs hp e0 AS ry (fun x hx => hflat x (by simp [hx])) (fun x hx => hflat x (by simp [hx])) (by omega) hfit
    have hrun := app_run (o := o) hc ha ht0 ho g1
    subst g2
    have hk := keep_grew (w := w) (claim (ρ k) (.lst i.size ts 0)) (w.drawn + 1) (.cells arr e)
    have hk0 := keep_grew (w := w) (fun _ _ => False) (w.drawn + 1) (.cells arr e)
    obtain ⟨ρ', h1, h2, h3⟩ := hr.hand (k := k) (k' := k') (blk2 := .gone) (blk' := .lst i.size (ts ++ xs) 0) (S' := S) ⟨w.heap.size, .slice (some ⟨w.heap.size, 0, none⟩) (ts ++ xs).length C2⟩ hl hf' (Ble.gone _) hk (fun _ _ h => h) (fun _ _ h => .inl h) hgone
      (fun b o hc => by
        have hc' : b = w.heap.size := hc.1
        subst hc'
        exact ⟨.inr ⟨Nat.le_refl _, by simp⟩, fun hs => by have := hr.mem.lt _ _ hs; omega⟩)
      (fun _ _ _ => trivial)
      (fun ρ' e1 e2 => by
        refine ⟨hflat, _, C2, by rw [e1], g3, .inr ⟨by rw [e1], arr, e, by rw [e1]; simp, g4, fun q x j c hq hc => ?_⟩⟩
        obtain ⟨v, p1, p2⟩ := g5 q x j c hq hc
        exact ⟨v, p1, p2.keep (fun _ _ h => h) hk0 (fun _ _ h => h.elim) hr.mem.lt⟩)
    exact ⟨_, _, _, S, ρ', _, _, h, h3, sl_whole (m := 0) (sz := i.size) (ts := ts ++ xs) (by simp [look]) (by rw [h1]) g3 (fun _ => ⟨_, _, rfl⟩), .inl hrun⟩
end
end Go.Nx
end
section
set_option linter.unusedVariables false
set_option linter.unusedSimpArgs false
namespace Go.Nx
open Go.RowKit

section
variable {P : Program} {Γ : Env} {B : Base} {S : Cells} {ρ : Infos} {tm : List V} {own : Own} {a : Act} {w : World}
variable {o : Oper} {K : V → Own → Log → Prop} {log : Log} {dr : Bool}

theorem app_spare (hr : Rel Γ B S ρ ⟨tm, own⟩ a w) {x y : Operand} {c : Call} {t tu e : TypeId} {i : TypeInfo} {z : Value} (hc : c.callee = .builtin .append) (ha : c.args = #[x, y]) (ht0 : c.argTypes = #[t, tu]) (ho : o.op = .call c)
    (ht : P.underlying t = some (.slice e)) (hi : P.info? e = some i) (hz : i.zero = some z) (hzs : z.cells.size = i.size) (hp : 0 < i.bytes) (hsz : 0 < i.size) {k off : Nat} {ts : List T} (hx : RelV S w ρ own (.sl k off none) (a.eval x)) (hl : look k own = some (.lst i.size ts 1))
    {xs : List T} {news : List Value} (AS : ASrc P S w t tu o.type e i (a.eval y) xs news) {k' : Nat} (hfit : (ts.length + xs.length) * i.bytes ≤ maxBytes) (hf : look k' (upd k (.lst i.size ts 2) own) = none)
    (h : K (.sl k' 0 none) ((k', .lst i.size (subL ts off none ++ xs) 1) :: upd k (.lst i.size ts 2) own) log) : Did P Γ B o a w tm K := by
  have hf' : look k' own = none := by
    rw [look_upd hl] at hf
    split at hf
    · cases hf
    · exact hf
  have hs0 := sl_of hx hl
  obtain ⟨hTrv, hspare, hnone⟩ := hr.mem.blk k _ hl
  have hT := sl_list hTrv hs0
  obtain ⟨ad0, c0, e0, hnc, hlen0, hle0, hget, hlast, A, C, q4, q5, q6, q7⟩ := sl_sub hs0
  have hc0 := q5 rfl
  have hn0 := hlast rfl
  generalize hys : subL ts off none = ys at *
  rw [e0] at hT
  have hflat : ∀ x ∈ ys ++ xs, Flat i.size x := fun x hx => by
    rcases List.mem_append.1 hx with hx | hx
    · exact (rdl_of_t hT).sz x hx
    · exact AS.flat x hx
  have hle2 : Ble (.lst i.size ts 1) (.lst i.size ts 2) := .inr ⟨ts, 2, rfl, rfl⟩
  have hno : ∀ b o, ¬ claim (ρ k) (.lst i.size ts 2) b o := fun b o h => h
  have hS0 : ∀ b o, claim (ρ k) (.lst i.size ts 1) b o → ¬ S b o := fun b o hc hs => (hr.mem.cl k _ hl b o hc).2 hs
  have hfit2 : (ys.length + xs.length) * i.bytes ≤ maxBytes := Nat.le_trans (Nat.mul_le_mul_right _ (by omega)) hfit
  by_cases hroom : ys.length + xs.length ≤ c0
  · by_cases hxs : xs = []
    · subst hxs
      have hn : news = [] := List.eq_nil_of_length_eq_zero (by simpa using AS.len)
      subst hn
      have hrun := app_run (o := o) hc ha ht0 ho (by rw [e0]; exact AS.fit _ _ _ _ hroom (fun b hb => stC_nil) (fun _ => rfl))
      obtain ⟨ρ', h1, h2, h3⟩ := hr.hand (k := k) (k' := k') (blk2 := .lst i.size ts 2) (blk' := .lst i.size (ys ++ []) 1) (w' := w) (S' := S) ⟨0, .slice ad0 ys.length c0⟩ hl hf' hle2 (.refl _ w) (fun _ _ h => h) (fun _ _ h => .inl h) hno
        (fun b o hc => by
          obtain ⟨o', sp, n, cap, e, g1, g2⟩ := hc
          simp only [Value.slice.injEq] at e
          obtain ⟨e3, rfl, rfl⟩ := e
          have hcp : 0 < c0 := by
            rcases Nat.eq_zero_or_pos c0 with h | h
            · rw [h] at g2; omega
            · exact h
          obtain ⟨b', o2, p1, p2⟩ := q7 hcp
          rw [e3] at p2
          simp only [Option.some.injEq, Addr.mk.injEq] at p2
          obtain ⟨rfl, rfl, rfl⟩ := p2
          have hcl : claim (ρ k) (.lst i.size ts 1) b o := by
            refine ⟨o2, none, ts.length, C, by rw [q4, p1], ?_, ?_⟩
            · have : (off + ys.length) * i.size = ts.length * i.size := by rw [hn0]
              rw [Nat.add_mul] at this; omega
            · have : (off + c0) * i.size ≤ C * i.size := Nat.mul_le_mul_right _ (by omega)
              rw [Nat.add_mul] at this; omega
          exact ⟨.inl hcl, hS0 b o hcl⟩)
        (fun ρ' e1 e2 => by
          show RelT S w (.list i.size ts) (ρ' k).rv
          rw [e2 k _ hl]; exact hTrv)
        (fun ρ' e1 e2 => by
          refine ⟨by rw [e1]; simpa using hT, fun b o sp n cap hrv => ?_, fun n cap hrv => ?_⟩
          · rw [e1] at hrv
            simp only [Value.slice.injEq] at hrv
            obtain ⟨e3, rfl, rfl⟩ := hrv
            by_cases hcc : c0 = ys.length
            · exact .inl hcc
            · obtain ⟨b', o2, p1, p2⟩ := q7 (by omega)
              rw [e3] at p2
              simp only [Option.some.injEq, Addr.mk.injEq] at p2
              obtain ⟨rfl, rfl, rfl⟩ := p2
              rcases hspare _ _ _ _ _ (by rw [q4, p1]) with h | ⟨_, arr, et, h4, h5⟩
              · omega
              · refine .inr ⟨rfl, arr, et, h4, ?_⟩
                have : (off + c0) * i.size ≤ C * i.size := Nat.mul_le_mul_right _ (by omega)
                rw [Nat.add_mul] at this; omega
          · rw [e1] at hrv
            simp only [Value.slice.injEq] at hrv
            obtain ⟨e3, rfl, rfl⟩ := hrv
            rcases Nat.eq_zero_or_pos c0 with h | h
            · exact h
            · obtain ⟨b', o2, p1, p2⟩ := q7 h
              rw [e3] at p2; cases p2)
      refine ⟨_, _, _, S, ρ', w, _, h, h3, ?_, .inl hrun⟩
      have := sl_whole (S := S) (w' := w) (ρ' := ρ') (C := c0) (A := ad0) (m := 1) (sz := i.size) (ts := ys ++ []) (own' := (k', .lst i.size (ys ++ []) 1) :: upd k (.lst i.size ts 2) own) (k := k') (by simp [look]) (by rw [h1]; simp) (by simpa using hnc) (fun hcp => by
        obtain ⟨b', o2, p1, p2⟩ := q7 hcp
        exact ⟨_, _, p2⟩)
      simpa using this
    · have hpos : 0 < xs.length := List.length_pos_iff.2 hxs
      obtain ⟨b', o2, p1, p2⟩ := q7 (by omega)
      subst p1 p2
      rcases hspare _ _ _ _ _ q4 with h | ⟨_, arr, et, h4, h5⟩
      · omega
      · have hnl := AS.len
        have hlen : (ys.length + xs.length) * i.size ≤ c0 * i.size := Nat.mul_le_mul_right _ hroom
        rw [Nat.add_mul] at hlen
        have hoc : (off + c0) * i.size ≤ C * i.size := Nat.mul_le_mul_right _ (by omega)
        rw [Nat.add_mul] at hoc
        have hoN : (off + ys.length) * i.size = ts.length * i.size := by rw [hn0]
        rw [Nat.add_mul] at hoN
        obtain ⟨w', r1, r2, r3⟩ := run_storeCells1 (P := P) (off := o2 + off * i.size + ys.length * i.size) news 0 w arr h4 (by omega) AS.one
        rw [Nat.add_zero] at r2
        have hrun := app_run (o := o) hc ha ht0 ho (by rw [e0]; exact AS.fit _ _ _ _ hroom (fun b hb => by cases hb; rw [add_addr]; exact r1) (fun h => by cases h))
        have l1 : o2 + off * i.size + ys.length * i.size + news.length ≤ arr.toList.length := by simp; omega
        -- what is written is what is claimed
        have hk : Keep (claim (ρ k) (.lst i.size ts 1)) w w' := by
          refine ⟨r3.os, r3.tape, r3.output, r3.size, fun b hb => ?_⟩
          by_cases eb : b = b'
          · subst eb
            refine .inr (.inl ⟨arr, _, et, (0, 0), h4, r2, by simp [putN_length _ _ _ (Or.inr l1)], fun j hj => ?_⟩)
            simp only [List.getElem?_toArray]
            rw [putN_get _ _ _ _ l1]
            split
            · rename_i hin
              exact (hj ⟨o2, none, ts.length, C, q4, by omega, by omega⟩).elim
            · simp
          · rcases r3.blk b hb with h | ⟨c1, c2, e3, f, g1, g2, g3, g4⟩ | ⟨h0, _⟩
            · exact .inl h
            · refine .inr (.inl ⟨c1, c2, e3, f, g1, g2, g3, fun j hj => g4 j eb⟩)
            · exact (eb h0).elim
        have hS : ∀ b o, S b o → S b o ∨ (b = b' ∧ o2 + ts.length * i.size ≤ o ∧ o < o2 + (ts.length + xs.length) * i.size) := fun _ _ h => .inl h
        have mono : ∀ c u, RelT S w c u → RelT (fun b o => S b o ∨ (b = b' ∧ o2 + ts.length * i.size ≤ o ∧ o < o2 + (ts.length + xs.length) * i.size)) w' c u := fun c u hcu => hcu.keep hS hk hS0 hr.mem.lt
        have hadd : (ts.length + xs.length) * i.size = ts.length * i.size + xs.length * i.size := Nat.add_mul _ _ _
        obtain ⟨ρ', h1, h2, h3⟩ := hr.hand (k := k) (k' := k') (blk2 := .lst i.size ts 2) (blk' := .lst i.size (ys ++ xs) 1) (w' := w') (S' := fun b o => S b o ∨ (b = b' ∧ o2 + ts.length * i.size ≤ o ∧ o < o2 + (ts.length + xs.length) * i.size))
          ⟨b', .slice (some ⟨b', o2 + off * i.size, none⟩) (ys ++ xs).length c0⟩ hl hf' hle2 hk hS
          (fun b o h => by
            rcases h with h | ⟨rfl, g1, g2⟩
            · exact .inl h
            · exact .inr (.inl ⟨o2, none, ts.length, C, q4, g1, by omega⟩)) hno
          (fun b o hc => by
            obtain ⟨o', sp, n, cap, e, g1, g2⟩ := hc
            simp only [Value.slice.injEq, Option.some.injEq, Addr.mk.injEq] at e
            obtain ⟨⟨rfl, rfl, _⟩, rfl, rfl⟩ := e
            rw [List.length_append, Nat.add_mul] at g1
            have hcl : claim (ρ k) (.lst i.size ts 1) b' o := ⟨o2, none, ts.length, C, q4, by omega, by omega⟩
            refine ⟨.inl hcl, fun hs => ?_⟩
            rcases hs with hs | hs
            · exact hS0 _ _ hcl hs
            · omega)
          (fun ρ' e1 e2 => by
            show RelT _ w' (.list i.size ts) (ρ' k).rv
            rw [e2 k _ hl]; exact mono _ _ hTrv)
          (fun ρ' e1 e2 => by
            refine ⟨?_, fun b o sp n cap hrv => ?_, fun n cap hrv => ?_⟩
            · rw [e1]
              obtain ⟨_, _, g2, u, g3, g4⟩ := hT.list_of
              refine .list i.size (ys ++ xs) _ c0 (fun q j => if q < ys.length then u q j else (news[(q - ys.length) * i.size + j]?).getD undef) (by rw [List.length_append]; exact hroom) (fun hne => ⟨b', o2 + off * i.size, rfl, fun q j hq hj => ?_⟩) hflat fun q x hx j c hc => ?_
              · by_cases hq2 : q < ys.length
                · simp only [if_pos hq2]
                  obtain ⟨b3, o3, e3, h3⟩ := g3 (fun hn => by subst hn; simp at hq2)
                  simp only [Option.some.injEq, Addr.mk.injEq] at e3
                  obtain ⟨rfl, rfl, _⟩ := e3
                  obtain ⟨k1, k2⟩ := h3 q j hq2 hj
                  exact ⟨.inl k1, by rw [hk.cell (fun hc => hS0 _ _ hc k1) (hr.mem.lt _ _ k1)]; exact k2⟩
                · simp only [if_neg hq2]
                  rw [List.length_append] at hq
                  have hb1 : (q - ys.length + 1) * i.size ≤ xs.length * i.size := Nat.mul_le_mul_right _ (by omega)
                  rw [Nat.add_mul] at hb1
                  have hge : ys.length * i.size ≤ q * i.size := Nat.mul_le_mul_right _ (by omega)
                  have hsub : (q - ys.length) * i.size = q * i.size - ys.length * i.size := Nat.sub_mul _ _ _
                  refine ⟨.inr ⟨by first | trivial | rfl, by omega, by omega⟩, ?_⟩
                  rw [cell_row r2]
                  simp only [List.getElem?_toArray]
                  rw [putN_get _ _ _ _ l1, if_pos (by omega)]
                  rw [show o2 + off * i.size + q * i.size + j - (o2 + off * i.size + ys.length * i.size) = (q - ys.length) * i.size + j by omega]
                  have hlt : (q - ys.length) * i.size + j < news.length := by omega
                  simp [hlt]
              · by_cases hq2 : q < ys.length
                · simp only [if_pos hq2]
                  rw [List.getElem?_append_left hq2] at hx
                  exact mono _ _ (g4 q x hx j c hc)
                · simp only [if_neg hq2]
                  rw [List.getElem?_append_right (by omega)] at hx
                  obtain ⟨u', k1, k2⟩ := AS.rel _ x j c hx hc
                  rw [k1]; exact mono _ _ k2
            · rw [e1] at hrv
              simp only [Value.slice.injEq, Option.some.injEq, Addr.mk.injEq] at hrv
              obtain ⟨⟨rfl, rfl, rfl⟩, rfl, rfl⟩ := hrv
              exact .inr ⟨rfl, _, et, r2, by simp [putN_length _ _ _ (Or.inr l1)]; omega⟩
            · rw [e1] at hrv; simp at hrv)
        refine ⟨_, _, _, _, ρ', w', _, h, h3, ?_, .inl hrun⟩
        have := sl_whole (S := fun b o => S b o ∨ (b = b' ∧ o2 + ts.length * i.size ≤ o ∧ o < o2 + (ts.length + xs.length) * i.size)) (w' := w') (ρ' := ρ') (k := k') (C := c0) (A := some ⟨b', o2 + off * i.size, none⟩) (m := 1) (sz := i.size) (ts := ys ++ xs) (own' := (k', .lst i.size (ys ++ xs) 1) :: upd k (.lst i.size ts 2) own) (by simp [look]) (by rw [h1]) (by rw [List.length_append]; exact hroom) (fun _ => ⟨_, _, rfl⟩)
        simpa using this
  · obtain ⟨_, _, olds, e2, _, ry⟩ := rdl_read (rdl_of_t hT) (.inr rfl) hsz
    obtain ⟨C2, arr, w', g1, g2, g3, g4, g5⟩ := grew (ty := o.type) (S := S) ht hi hz hzs hp e0 AS (e0 ▸ ry) (fun x hx => hflat x (by simp [hx])) (fun x hx => hflat x (by simp [hx])) (by omega) hfit2
    have hrun := app_run (o := o) hc ha ht0 ho g1
    subst g2
    have hk := keep_grew (w := w) (claim (ρ k) (.lst i.size ts 1)) (w.drawn + 1) (.cells arr e)
    have hS : ∀ b o, S b o → S b o ∨ (b = w.heap.size ∧ o < (ys ++ xs).length * i.size) := fun _ _ h => .inl h
    obtain ⟨ρ', h1, h2, h3⟩ := hr.hand (k := k) (k' := k') (blk2 := .lst i.size ts 2) (blk' := .lst i.size (ys ++ xs) 1) (S' := fun b o => S b o ∨ (b = w.heap.size ∧ o < (ys ++ xs).length * i.size)) ⟨w.heap.size, .slice (some ⟨w.heap.size, 0, none⟩) (ys ++ xs).length C2⟩ hl hf' hle2 hk hS
      (fun b o h => h.imp id fun h => .inr ⟨by omega, by simp; omega⟩) hno
      (fun b o hc => by
        obtain ⟨o', sp, m, cap, e1, g1, g2⟩ := hc
        simp only [Value.slice.injEq, Option.some.injEq, Addr.mk.injEq] at e1
        obtain ⟨⟨rfl, rfl, _⟩, rfl, rfl⟩ := e1
        refine ⟨.inr ⟨Nat.le_refl _, by simp⟩, fun hs => ?_⟩
        rcases hs with hs | hs
        · have := hr.mem.lt _ _ hs; omega
        · omega)
      (fun ρ' e1 e2 => by
        show RelT _ _ (.list i.size ts) (ρ' k).rv
        rw [e2 k _ hl]; exact hTrv.keep hS hk hS0 hr.mem.lt)
      (fun ρ' e1 e2 => relB_settled hS (fun o ho => .inr ⟨rfl, ho⟩) hr.mem.lt e1 hflat g3 g4 g5)
    exact ⟨_, _, _, _, ρ', _, _, h, h3, sl_whole (m := 1) (sz := i.size) (ts := ys ++ xs) (by simp [look]) (by rw [h1]) g3 (fun _ => ⟨_, _, rfl⟩), .inl hrun⟩

theorem op_appTo (hr : Rel Γ B S ρ ⟨tm, own⟩ a w) {x y : Operand} {c : Call} {t tu e : TypeId} {i : TypeInfo} {z : Value} {vx : V} (hx : RelV S w ρ own vx (a.eval x)) (hc : c.callee = .builtin .append) (ha : c.args = #[x, y]) (ht0 : c.argTypes = #[t, tu]) (ho : o.op = .call c)
    (ht : P.underlying t = some (.slice e)) (hi : P.info? e = some i) (hz : i.zero = some z) (hzs : z.cells.size = i.size) (hp : 0 < i.bytes) (hsz : 0 < i.size) {xs : List T} {news : List Value} (AS : ASrc P S w t tu o.type e i (a.eval y) xs news) {kb : Nat} (h : run dr (appTo kb i.size i.bytes vx xs) own log K) : Did P Γ B o a w tm K := by
  unfold appTo at h
  split at h
  · exact app_fresh hr hc ha ht0 ho ht hi hz hzs hp hsz (nils_of hx.t_of) AS h
  · obtain ⟨ad, e⟩ := ce_of hx
    exact app_fresh hr hc ha ht0 ho ht hi hz hzs hp hsz e AS h
  · rename_i sz' ys
    replace h := natP_elim h
    obtain ⟨hq, h⟩ := h
    rw [Nat.beq_eq] at hq; subst hq
    exact app_cl hr hc ha ht0 ho ht hi hz hzs hp hsz hx AS h
  · rename_i k off
    replace h := rd_elim h
    obtain ⟨b, hb, h⟩ := h
    split at h
    · rename_i sz' ts m
      replace h := natP_elim h
      obtain ⟨hq, h⟩ := h
      rw [Nat.beq_eq] at hq; subst hq
      replace h := req_elim h
      obtain ⟨hfit, h⟩ := h
      split at h
      · split at h
        · replace h := wr_elim h
          replace h := new_elim h
          obtain ⟨hf, h⟩ := h
          exact app_own hr hc ha ht0 ho ht hi hz hzs hp hsz hx hb AS hfit hf h
        · exact h.elim
      · replace h := wr_elim h
        replace h := new_elim h
        obtain ⟨hf, h⟩ := h
        exact app_spare hr hc ha ht0 ho ht hi hz hzs hp hsz hx hb AS hfit hf h
      · exact h.elim
    · exact h.elim
  · exact h.elim

theorem op_app (hr : Rel Γ B S ρ ⟨tm, own⟩ a w) {x y : Operand} {c : Call} {t tu e e2 : TypeId} {i : TypeInfo} {z : Value} {vx vy : V} (hx : RelV S w ρ own vx (a.eval x)) (hy : RelV S w ρ own vy (a.eval y)) (hc : c.callee = .builtin .append) (ha : c.args = #[x, y]) (ht0 : c.argTypes = #[t, tu]) (ho : o.op = .call c)
    (ht : P.underlying t = some (.slice e)) (hu : P.underlying tu = some (.slice e2)) (hi : P.info? e = some i) (hz : i.zero = some z) (hzs : z.cells.size = i.size) (hp : 0 < i.bytes) (hsz : 0 < i.size) {base key : Nat} {x' y' : Opd} (h : run dr (prog base (.app key i.size i.bytes x' y') [vx, vy]) own log K) : Did P Γ B o a w tm K := by
  simp only [prog] at h
  replace h := listP_elim hr hy h
  obtain ⟨sz, xs, log', h, hl⟩ := h
  replace h := req_elim h
  obtain ⟨hs, h⟩ := h
  obtain ⟨news, AS⟩ := asrc_rdl (ty := o.type) ht hu hi hl hs hsz
  exact op_appTo hr hx hc ha ht0 ho ht hi hz hzs hp hsz AS h
theorem op_appz (hr : Rel Γ B S ρ ⟨tm, own⟩ a w) {x y : Operand} {c : Call} {t tu e : TypeId} {i : TypeInfo} {z : T} {kn : IntKind} {vx vy : V} (hx : RelV S w ρ own vx (a.eval x)) (hy : RelV S w ρ own vy (a.eval y)) (hc : c.callee = .builtin .append) (ha : c.args = #[x, y]) (ht0 : c.argTypes = #[t, tu]) (ho : o.op = .call c)
    (ht : P.underlying t = some (.slice e)) (htn : P.underlying tu = some (.int kn)) (hi : P.info? e = some i) (hz : zeroT P e = some z) (hzs : z.cells.length = i.size) (hfl : z.one = true ∨ ∃ cs, z = .agg cs) (hz1 : ∀ c ∈ z.cells, c.one = true) (hp : 0 < i.bytes) (hsz : 0 < i.size) {base key : Nat} {x' y' : Opd}
    (h : run dr (prog base (.appz key i.size i.bytes z x' y') [vx, vy]) own log K) : Did P Γ B o a w tm K := by
  simp only [prog] at h
  replace h := intP_elim h
  obtain ⟨kk, n, rfl, h⟩ := h
  have e1 := RelT.int_of hy.t_of
  replace h := req_elim h
  obtain ⟨⟨q1, q2⟩, h⟩ := h
  obtain ⟨i', zv, g1, g2, g3⟩ := zeroT_spec hz
  rw [hi] at g1; cases g1
  have hm : maxBytes = 140737488355328 := rfl
  have hb1 : (1 : Int) ≤ i.bytes := by omega
  have hn : n ≤ 140737488355328 := by
    have : n * 1 ≤ n * (i.bytes : Int) := Int.mul_le_mul_of_nonneg_left hb1 q1
    rw [hm] at q2; omega
  obtain ⟨news, AS⟩ := asrc_zeros (S := S) (w := w) (ty := o.type) (k := kk) ht htn hi hz (by omega) hzs hfl hz1 q1 hn (by rw [hm] at q2; exact q2)
  rw [← e1] at AS
  obtain ⟨c1, c2⟩ := RelT.cells (g3 S w) hfl
  exact op_appTo hr hx hc ha ht0 ho ht hi g2 (by rw [c1, hzs]) hp hsz AS h
theorem putL_len {ts xs : List T} {off : Nat} (h : off + xs.length ≤ ts.length) : (putL ts off xs).length = ts.length := by
  unfold putL; simp; omega
theorem putL_get {ts xs : List T} {off : Nat} (h : off + xs.length ≤ ts.length) (q : Nat) : (putL ts off xs)[q]? = if off ≤ q ∧ q < off + xs.length then xs[q - off]? else ts[q]? := by
  unfold putL
  have h1 : (ts.take off).length = off := by simp; omega
  by_cases hq : q < off
  · rw [if_neg (by omega), List.getElem?_append_left (by omega), List.getElem?_take, if_pos hq]
  · rw [List.getElem?_append_right (by omega), h1]
    by_cases hq2 : q < off + xs.length
    · rw [if_pos ⟨by omega, hq2⟩, List.getElem?_append_left (by omega)]
    · rw [if_neg (by omega), List.getElem?_append_right (by omega), List.getElem?_drop]
      congr 1; omega
theorem putL_nil {ts : List T} {off : Nat} : putL ts off [] = ts := by
  unfold putL; simp
theorem upd_same {k : Nat} {b : Blk} : ∀ {own : Own}, look k own = some b → upd k b own = own
  | [], h => by simp [look] at h
  | p :: r, h => by
    obtain ⟨j, c⟩ := p
    simp only [look] at h
    simp only [upd]
    split at h
    · rename_i e
      simp only [Option.some.injEq] at h
      subst h
      simp [e]
    · rename_i e
      simp only [e, if_false]
      rw [upd_same h]
theorem put_lst (hr : Rel Γ B S ρ ⟨tm, own⟩ a w) {k sz off : Nat} {len : Option Nat} {ts xs : List T} {v : Value} {news : List Value} (hl : look k own = some (.lst sz ts 0)) (hs : SlOk (ρ k).rv (.lst sz ts 0) off len v)
    (hle : xs.length ≤ (subL ts off len).length) (hne : xs ≠ []) (hnl : news.length = xs.length * sz)
    (hrel : ∀ (j : Nat) (x : T) (m : Nat) (c : T), xs[j]? = some x → x.cells[m]? = some c → ∃ u, news[j * sz + m]? = some u ∧ RelT S w c u) (hone : ∀ z ∈ news, vone z = true) (hflat : ∀ x ∈ xs, Flat sz x) :
    ∃ ad n c w', v = .slice (some ad) n c ∧ n = (subL ts off len).length ∧ (storeCells ad news).run P w = .ok () w' ∧ Rel Γ B S ρ ⟨tm, upd k (.lst sz (putL ts off xs) 0) own⟩ a w' := by
  have hpx : 0 < xs.length := List.length_pos_iff.2 hne
  obtain ⟨ad0, c0, e0, hnc, _, hle0, hget, _, A, C, q4, q5, q6, q7⟩ := sl_sub hs
  have hts : ts ≠ [] := fun h => by
    have : ts.length = 0 := by rw [h]; rfl
    omega
  obtain ⟨C', arr, et, k1, k2, k3, k4, k5, k6⟩ := lst0_cells hr hl hts
  rw [q4] at k1
  simp only [Value.slice.injEq] at k1
  obtain ⟨rfl, _, rfl⟩ := k1
  obtain ⟨b', o', p1, p2⟩ := q7 (by omega)
  simp only [Option.some.injEq, Addr.mk.injEq] at p1
  obtain ⟨rfl, rfl, _⟩ := p1
  rw [Nat.zero_add] at p2
  have hol : off + xs.length ≤ ts.length := by omega
  have hlen : (off + xs.length) * sz ≤ C * sz := Nat.mul_le_mul_right _ (by omega)
  rw [Nat.add_mul] at hlen
  obtain ⟨w', r1, r2, r3⟩ := run_storeCells1 (P := P) (off := off * sz) news 0 w arr k3 (by omega) hone
  rw [Nat.add_zero] at r2
  have l1 : off * sz + news.length ≤ arr.toList.length := by simp; omega
  refine ⟨⟨(ρ k).blk, off * sz, none⟩, _, c0, w', by rw [e0, p2], rfl, r1, ?_⟩
  have hfl : ∀ x ∈ putL ts off xs, Flat sz x := fun x hx => by
    obtain ⟨q, hq⟩ := List.mem_iff_getElem?.1 hx
    rw [putL_get hol] at hq
    split at hq
    · exact hflat x (List.mem_of_getElem? hq)
    · exact k5 x (List.mem_of_getElem? hq)
  refine turn_lst hr hl hts (putL_len hol) hfl r3 r2 (fun arr2 e2 h => ?_) fun q x j c hq hc => ?_
  · rw [k3] at h
    simp only [Option.some.injEq, Obj.cells.injEq] at h
    rw [← h.1]; simp [putN_length _ _ _ (Or.inr l1)]
  · have hj : j < sz := by
      rw [← (hfl x (List.mem_of_getElem? hq)).1]
      rcases Nat.lt_or_ge j x.cells.length with h | h
      · exact h
      · rw [List.getElem?_eq_none h] at hc; cases hc
    simp only [List.getElem?_toArray]
    rw [putN_get _ _ _ _ l1]
    rw [putL_get hol] at hq
    split at hq
    · rename_i hin
      obtain ⟨u, g1, g2⟩ := hrel (q - off) x j c hq hc
      have e3 : (q - off) * sz = q * sz - off * sz := Nat.sub_mul _ _ _
      have e4 : off * sz ≤ q * sz := Nat.mul_le_mul_right _ hin.1
      have e5 : (q - off + 1) * sz ≤ xs.length * sz := Nat.mul_le_mul_right _ (by omega)
      rw [Nat.add_mul] at e5
      refine ⟨u, ?_, g2⟩
      rw [if_pos (by omega), show q * sz + j - off * sz = (q - off) * sz + j by omega]
      exact g1
    · rename_i hin
      obtain ⟨u, g1, g2⟩ := k6 q x j c hq hc
      refine ⟨u, ?_, g2⟩
      have : ¬ (off * sz ≤ q * sz + j ∧ q * sz + j < off * sz + news.length) := by
        rintro ⟨h1, h2⟩
        apply hin
        constructor
        · rcases Nat.lt_or_ge q off with h | h
          · have : (q + 1) * sz ≤ off * sz := Nat.mul_le_mul_right _ h
            rw [Nat.add_mul] at this; omega
          · exact h
        · rcases Nat.lt_or_ge q (off + xs.length) with h | h
          · exact h
          · have : (off + xs.length) * sz ≤ q * sz := Nat.mul_le_mul_right _ h
            rw [Nat.add_mul] at this; omega
      rw [if_neg this]
      simpa using g1
theorem op_capn (hr : Rel Γ B S ρ ⟨tm, own⟩ a w) {x : Operand} {c : Call} {t e : TypeId} {v : V} (hx : RelV S w ρ own v (a.eval x)) (hc : c.callee = .builtin .cap) (ha : c.args = #[x]) (ht : c.argTypes = #[t])
    (hu : P.underlying t = some (.slice e)) (ho : o.op = .call c) {base : Nat} {x' : Opd} (h : run dr (prog base (.capn x') [v]) own log K) : Did P Γ B o a w tm K := by
  simp only [prog] at h
  split at h
  · have e1 := nils_of hx.t_of
    exact did_val h hr (u := .int .i64 0) (.t _ _ (.int _ _)) (by simp [execOp, ho, resolve, hc, ha, ht, invoke, builtin, Builtin.cap_, underlying, hu, e1, goInt])
  · obtain ⟨ad, e1⟩ := ce_of hx
    exact did_val h hr (u := .int .i64 0) (.t _ _ (.int _ _)) (by simp [execOp, ho, resolve, hc, ha, ht, invoke, builtin, Builtin.cap_, underlying, hu, e1, goInt])
  · exact h.elim
theorem op_clr (hr : Rel Γ B S ρ ⟨tm, own⟩ a w) {x : Operand} {c : Call} {t e : TypeId} {i : TypeInfo} {z : T} {v : V} (hx : RelV S w ρ own v (a.eval x)) (hc : c.callee = .builtin .clear) (ha : c.args = #[x]) (ht : c.argTypes = #[t])
    (hu : P.underlying t = some (.slice e)) (hi : P.info? e = some i) (hz : zeroT P e = some z) (h0 : i.size ≠ 0) (hzs : z.cells.length = i.size) (hfl : z.one = true ∨ ∃ cs, z = .agg cs) (hz1 : ∀ c ∈ z.cells, c.one = true)
    (ho : o.op = .call c) {base : Nat} {x' : Opd} (h : run dr (prog base (.clr i.size z x') [v]) own log K) : Did P Γ B o a w tm K := by
  have none : a.eval x = .slice none 0 0 ∨ (∃ ad, a.eval x = .slice (some ad) 0 0) → (execOp a.eval o).run P w = .ok (.value (.tuple #[])) w := fun h => by
    rcases h with h | ⟨ad, h⟩ <;> simp [execOp, ho, resolve, hc, ha, ht, invoke, builtin, Builtin.clear_, underlying, hu, h]
  simp only [prog] at h
  split at h
  · exact did_val h hr rel_undef (none (.inl (nils_of hx.t_of)))
  · exact did_val h hr rel_undef (none (.inr (ce_of hx)))
  · rename_i k off len
    replace h := rd_elim h
    obtain ⟨b, hb, h⟩ := h
    split at h
    · rename_i sz' ts m
      split at h
      · replace h := natP_elim h
        obtain ⟨hq, h⟩ := h
        rw [Nat.beq_eq] at hq; subst hq
        replace h := wr_elim h
        have hs := sl_of hx hb
        obtain ⟨ad0, c0, e0, hnc, hn0, hle0, _⟩ := sl_sub hs
        rw [← hn0] at h
        rw [Int.toNat_natCast] at h
        generalize hnn : (subL ts off len).length = n at *
        obtain ⟨i', zv, g1, g2, g3⟩ := zeroT_spec hz
        rw [hi] at g1; cases g1
        obtain ⟨c1, c2⟩ := RelT.cells (g3 S w) hfl
        by_cases hn : n = 0
        · subst hn
          rw [List.replicate_zero, putL_nil, upd_same hb] at h
          refine did_val h hr rel_undef ?_
          cases ad0 <;> simp [execOp, ho, resolve, hc, ha, ht, invoke, builtin, Builtin.clear_, underlying, hu, e0] <;> rfl
        · have hp : 0 < i.size := by omega
          obtain ⟨ad, n', c', w', q1, q2, q3, q4⟩ := put_lst (P := P) (xs := List.replicate n z) (news := (Builtin.zeroCells zv.cells n).toList) hr hb hs (by simp [hnn]) (by simp [hn]) (by simp [zeroCells_size, c1, hzs])
            (fun j x m c hx hc => by
              rw [List.getElem?_replicate] at hx
              split at hx
              · rename_i hj
                cases hx
                have hm : m < z.cells.length := by
                  rcases Nat.lt_or_ge m z.cells.length with h | h
                  · exact h
                  · rw [List.getElem?_eq_none h] at hc; cases hc
                have hlt : j * i.size + m < n * zv.cells.size := by
                  have : (j + 1) * i.size ≤ n * i.size := Nat.mul_le_mul_right _ (by omega)
                  rw [Nat.add_mul] at this; rw [c1, hzs]; omega
                have hm2 : m < zv.cells.size := by omega
                have e3 : zv.cells[m]? = some zv.cells[m] := by simp [hm2]
                have e4 : (j * i.size + m) % zv.cells.size = m := by
                  rw [show i.size = zv.cells.size by rw [c1, hzs], Nat.mul_comm, Nat.mul_add_mod]
                  exact Nat.mod_eq_of_lt hm2
                refine ⟨zv.cells[m], ?_, c2 m c _ hc e3⟩
                simp [Builtin.zeroCells, hlt, e4, hm2]
              · cases hx)
            (fun y hy => by
              simp only [Builtin.zeroCells, Array.toList_map, Array.toList_range, List.mem_map, List.mem_range] at hy
              obtain ⟨q, hq, rfl⟩ := hy
              have hp : 0 < zv.cells.size := by rw [c1, hzs]; omega
              have hm2 : q % zv.cells.size < zv.cells.size := Nat.mod_lt _ hp
              have hm3 : q % zv.cells.size < z.cells.length := by omega
              have e3 : zv.cells[q % zv.cells.size]? = some zv.cells[q % zv.cells.size] := by simp [hm2]
              have e4 : z.cells[q % zv.cells.size]? = some z.cells[q % zv.cells.size] := by simp [hm3]
              have := ((c2 _ _ _ e4 e3).one (hz1 _ (List.mem_of_getElem? e4))).1
              rw [getElem!_pos zv.cells _ hm2]
              exact this)
            (fun x hx => by rw [List.eq_of_mem_replicate hx]; exact ⟨hzs, hz1⟩)
          have hn' : n' ≠ 0 := by omega
          rw [e0] at q1
          simp only [Value.slice.injEq] at q1
          obtain ⟨rfl, rfl, rfl⟩ := q1
          refine ⟨_, _, _, S, ρ, w', .tuple #[], h, q4, rel_undef, .inl ?_⟩
          obtain ⟨n2, rfl⟩ : ∃ n2, n = n2 + 1 := ⟨n - 1, by omega⟩
          simp [execOp, ho, resolve, hc, ha, ht, invoke, builtin, Builtin.clear_, underlying, hu, e0, zeroValue, typeInfo, hi, g2, q3]
      · exact h.elim
    · exact h.elim
  · exact h.elim
theorem rdl_take {sz n cap : Nat} {xs : List T} {v : Value} {ad : Option Addr} (h : Rdl S w sz xs v) (e : v = .slice ad xs.length cap) : Rdl S w sz (xs.take n) (.slice ad (xs.take n).length cap) := by
  obtain ⟨⟨ad', cap', e1, hc, u, h1, h2⟩, h3⟩ := h
  rw [e] at e1
  simp only [Value.slice.injEq] at e1
  obtain ⟨rfl, _, rfl⟩ := e1
  have hle : (xs.take n).length ≤ xs.length := by simp; omega
  refine ⟨⟨ad, cap, rfl, by omega, u, fun hne => ?_, fun i x hx => ?_⟩, fun x hx => h3 x (List.mem_of_mem_take hx)⟩
  · obtain ⟨b, o, e2, g⟩ := h1 (fun hn => by subst hn; simp at hne)
    exact ⟨b, o, e2, fun i j hi hj => g i j (by omega) hj⟩
  · rw [List.getElem?_take] at hx
    split at hx
    · exact h2 i x hx
    · cases hx
theorem op_cpy (hr : Rel Γ B S ρ ⟨tm, own⟩ a w) {x y : Operand} {c : Call} {t tu e : TypeId} {i : TypeInfo} {vx vy : V} (hx : RelV S w ρ own vx (a.eval x)) (hy : RelV S w ρ own vy (a.eval y)) (hc : c.callee = .builtin .copy) (ha : c.args = #[x, y]) (ht : c.argTypes = #[t, tu])
    (hu : P.underlying t = some (.slice e)) (hi : P.info? e = some i) (h0 : i.size ≠ 0) (ho : o.op = .call c) {base : Nat} {x' y' : Opd} (h : run dr (prog base (.cpy i.size x' y') [vx, vy]) own log K) : Did P Γ B o a w tm K := by
  simp only [prog] at h
  replace h := listP_elim hr hy h
  obtain ⟨sz, xs, log', h, hl⟩ := h
  obtain ⟨ad, cap, ee, hcap, _⟩ := hl.ex
  have none : a.eval x = .slice none 0 0 ∨ (∃ ad, a.eval x = .slice (some ad) 0 0) → (execOp a.eval o).run P w = .ok (.value (.int .i64 0)) w := fun h => by
    have hf : (Builtin.firstCells i.size 0 (.slice ad xs.length cap)).run P w = .ok #[] w := by
      cases ad with
      | none => simp [Builtin.firstCells]
      | some ad => simpa using run_firstCells_some (P := P) w i.size 0 ad xs.length cap [] (by simp) (fun j v hv => by simp at hv)
    rcases h with h | ⟨ad', h⟩ <;> simp [execOp, ho, resolve, hc, ha, ht, invoke, builtin, Builtin.copy_, underlying, hu, h, ee, Builtin.lenOf, sizeOf, typeInfo, hi, hf, goInt, storeCells]
  split at h
  · exact did_val h hr (.t _ _ (.int _ _)) (none (.inl (nils_of hx.t_of)))
  · exact did_val h hr (.t _ _ (.int _ _)) (none (.inr (ce_of hx)))
  · rename_i k off len
    replace h := rd_elim h
    obtain ⟨b, hb, h⟩ := h
    split at h
    · rename_i sz' ts m
      split at h
      · replace h := natP_elim h
        obtain ⟨hq, h⟩ := h
        rw [Nat.beq_eq] at hq; subst hq
        replace h := req_elim h
        obtain ⟨hsz, h⟩ := h
        replace h := wr_elim h
        have hs := sl_of hx hb
        obtain ⟨ad0, c0, e0, hnc, hn0, hle0, _⟩ := sl_sub hs
        rw [← hn0] at h
        rw [Int.toNat_natCast] at h
        have hmin : minI (xs.length : Int) ((subL ts off len).length : Int) = ((Nat.min xs.length (subL ts off len).length : Nat) : Int) := by
          rw [minI_def]; show _ = ((min xs.length (subL ts off len).length : Nat) : Int); rw [Nat.min_def]; split <;> split <;> omega
        rw [hmin] at h
        generalize hnn : (subL ts off len).length = dn at *
        have hl2 := rdl_take hl (n := dn) ee
        obtain ⟨ad', cap', news, e3, hcap', rx⟩ := rdl_read (size := i.size) hl2 (hsz.imp (fun h => by rw [h]; simp) id) (by omega)
        simp only [Value.slice.injEq] at e3
        obtain ⟨rfl, _, rfl⟩ := e3
        have htl : (xs.take dn).length = Nat.min xs.length dn := by rw [List.length_take]; exact Nat.min_comm _ _
        have hrd : (Builtin.firstCells i.size (Nat.min xs.length dn) (.slice ad xs.length cap)).run P w = .ok news.toArray w := by
          have := rx.run P w (fun _ => rfl)
          rw [htl] at this
          cases ad <;> exact this
        by_cases hn : xs.take dn = []
        · rw [hn, putL_nil, upd_same hb] at h
          have hn0 : Nat.min xs.length dn = 0 := by rw [← htl, hn]; rfl
          have hne : news = [] := List.eq_nil_of_length_eq_zero (by rw [rx.len, hn]; simp)
          rw [hn0] at hrd h
          subst hne
          refine did_val h hr (.t _ _ (.int _ _)) ?_
          have hn1 : min xs.length dn = 0 := hn0
          cases ad0 <;> simp [execOp, ho, resolve, hc, ha, ht, invoke, builtin, Builtin.copy_, underlying, hu, e0, ee, Builtin.lenOf, sizeOf, typeInfo, hi, hn0, hrd, goInt, storeCells]
        · have hfl : ∀ x ∈ xs.take dn, Flat i.size x := fun x hx => by
            rcases hsz with h | h
            · subst h; simp at hn
            · rw [← h]; exact hl.sz x (List.mem_of_mem_take hx)
          obtain ⟨ad2, n', c', w', q1, q2, q3, q4⟩ := put_lst (P := P) (xs := xs.take dn) (news := news) hr hb hs (by rw [hnn, htl]; exact Nat.min_le_right _ _) hn rx.len rx.rel rx.one hfl
          rw [e0] at q1
          simp only [Value.slice.injEq] at q1
          obtain ⟨rfl, rfl, rfl⟩ := q1
          refine ⟨_, _, _, S, ρ, w', .int .i64 ((Nat.min xs.length dn : Nat) : Int), h, q4, .t _ _ (.int _ _), .inl ?_⟩
          simp [execOp, ho, resolve, hc, ha, ht, invoke, builtin, Builtin.copy_, underlying, hu, e0, ee, Builtin.lenOf, sizeOf, typeInfo, hi, hrd, q3, goInt]
      · exact h.elim
    · exact h.elim
  · exact h.elim
end
end Go.Nx
end
