/-
  A part of the machine, and of what is walked.
-/
import Derived.Test.YtdfjedkpclebgaaDoorP14
import Derived.Tactics2
import Derived.Laws.Pointers
import Derived.KernelRfl
section
set_option linter.unusedVariables false
set_option linter.unusedSimpArgs false
set_option maxRecDepth 20000
set_option maxHeartbeats 4000000
namespace Go.Nx
open Go Go.RowKit Go.Proofs

def clo63c : MC := .reg [⟨some 10, .bld [(.int .i64 0), .nils] [], none⟩, ⟨none, .st 2 (.t 0) (.t 10), none⟩, ⟨none, .st 1 (.t 1) (.k (.int .i64 2)), none⟩] none
noncomputable def clo63 : DPt := fun md ks own R => match ks with
  | [] => False
  | kh :: r => match r with
    | [] => False
    | ke :: r => match r with
      | _ :: _ => False
      | [] => match md with
        | none => R own
        | some y => match y with
          | none => False
          | some x => match x with
            | .ifc t _ => match Nat.beq t 97 with
              | true => wpx { En tgl [] [] with prot := keysOf own } clo63c ⟨[.ptr kh 0, .ptr ke 0, .dead, .dead, .dead, .dead, .dead, .dead, .dead, .dead, .dead], own⟩ fun e st => match e with
                | .normal => R st.own
                | _ => False
              | false => False
            | _ => False
@[go_sem] theorem as97 (v : Value) (w : World) : (Instr.typeAssert (.iface 97 v) 20 92 true).run Tryd.prog w = .ok (.tuple #[.iface 97 v, .bool true]) w := by kernel_rfl
@[go_sem] theorem asNil (w : World) : (Instr.typeAssert .nilIface 20 92 true).run Tryd.prog w = .ok (.tuple #[.nilIface, .bool false]) w := by kernel_rfl
theorem clo63_ret (a b : Value) (w : World) (Rr : Ending → FrameMode → World → Prop) (h : Rr (.returned (.tuple #[])) .returning w) : CallsD Tryd.prog 57 #[a, b] .returning w Rr := by
  refine callsD_of_wpS Tryd.func57 rfl fun c₀ cs hm0 => ?_
  apply wpS_seq
  apply wpS_region
  simp [wpOpsS, go_sem, recoverD, hm0, Tryd.ntmps57, Exit.thenS]
  apply wpS_seq
  apply wpS_region
  simp [wpOpsS, go_sem, Exit.thenS]
  refine wpS_cond (t := false) (by simp [Act.eval, Array.replicate]) ?_
  simp only [Bool.false_eq_true, if_false]
  refine wpS_of_wp (wp_skip ?_)
  cases c₀
  simp_all [bodyPostS, results, Tryd.results57]
theorem good_clo {Γ : Env} {S : Cells} {w : World} {ρ : Infos} {own : Own} {kh ke n : Nat} {a : Act} (hm : Mem Γ.gl S w ρ own) (hh : ∃ b, look kh own = some b) (he : ∃ b, look ke own = some b) (h0 : a.tmps[0]? = some (.pointer (some ⟨(ρ kh).blk, 0, none⟩)))
    (h1 : a.tmps[1]? = some (.pointer (some ⟨(ρ ke).blk, 0, none⟩))) (hs : a.tmps.size = n + 2) (hd : a.defers = []) : Good { Γ with prot := keysOf own } ⟨w, S, ρ, own, []⟩ ⟨.ptr kh 0 :: .ptr ke 0 :: List.replicate n .dead, own⟩ a w := by
  refine ⟨S, ρ, hm, .refl _ w, hm.lt, fun _ _ h => h, fun _ _ h => .inl h, fun _ _ h => .inl h, .refl _, fun _ _ _ => rfl, fun k b hk => keysOf_look hk, by simp [hs], fun i v u hv hu => ?_, hd⟩
  match i with
  | 0 => obtain ⟨b, hb⟩ := hh; rw [h0] at hu; simp at hv hu; subst hv hu; exact .ptr _ _ b hb
  | 1 => obtain ⟨b, hb⟩ := he; rw [h1] at hu; simp at hv hu; subst hv hu; exact .ptr _ _ b hb
  | i + 2 =>
    simp only [List.getElem?_cons_succ, List.getElem?_replicate] at hv
    split at hv
    · cases hv; exact .dead u
    · cases hv
theorem clo63_pan (kh ke : Nat) (x u : Value) {S : Cells} {w : World} {ρ : Infos} {own : Own} {R : Own → Prop} (hu : u = .iface 97 x) (hm : Mem tgl S w ρ own) (hh : ∃ b, look kh own = some b) (he : ∃ b, look ke own = some b)
    (h : wpx { En tgl [] [] with prot := keysOf own } clo63c ⟨[.ptr kh 0, .ptr ke 0, .dead, .dead, .dead, .dead, .dead, .dead, .dead, .dead, .dead], own⟩ fun e st => match e with
      | .normal => R st.own
      | _ => False) (Rr : Ending → FrameMode → World → Prop) (hR : ∀ st' S' ρ' a' w', R st'.own → Rel { En tgl [] [] with prot := keysOf own } ⟨w, S, ρ, own, []⟩ S' ρ' st' a' w' → Rr (.returned (.tuple #[])) (.panicking [{ v := u, recovered := true }]) w') :
    CallsD Tryd.prog 57 #[.pointer (some ⟨(ρ kh).blk, 0, none⟩), .pointer (some ⟨(ρ ke).blk, 0, none⟩)] (.panicking [{ v := u, recovered := false }]) w Rr := by
  subst hu
  refine callsD_of_wpS Tryd.func57 rfl fun c₀ cs hm0 => ?_
  apply wpS_seq
  apply wpS_region
  simp [wpOpsS, go_sem, recoverD, hm0, Tryd.ntmps57, Exit.thenS]
  apply wpS_seq
  apply wpS_region
  simp [wpOpsS, go_sem, Exit.thenS]
  refine wpS_cond (t := true) (by simp [Act.eval, Array.replicate]) ?_
  simp only [if_true]
  refine wpS_of_wp (wpx_sound (B := ⟨w, S, ρ, own, []⟩) (env_nil.with 0 (keysOf own)) _ clo63c ⟨[.ptr kh 0, .ptr ke 0, .dead, .dead, .dead, .dead, .dead, .dead, .dead, .dead, .dead], own⟩ _ w _ _ (by kernel_rfl) h ?_ fun e st' a' w' hK hg' => ?_)
  · exact good_clo (Γ := En tgl [] []) (n := 9) hm hh he (by simp) (by simp) (by simp) rfl
  · cases e with
    | normal =>
      obtain ⟨S', ρ', hr⟩ := hg'
      exact ⟨hr.defers, _, rfl, .tuple #[], by simp [results, Tryd.results57], hR st' S' ρ' a' w' hK hr⟩
    | exit i => exact hK.elim
    | ret => exact hK.elim
    | pan y => exact hK.elim
theorem def63 (md : Option (Option T)) (ks : List Nat) (own : Own) (R : Own → Prop) (h : clo63 md ks own R) : DefOk Tryd.prog tgl 57 md ks own R := by
  obtain ⟨kh, ke, rfl⟩ : ∃ kh ke, ks = [kh, ke] := by
    match ks, h with
    | [], h => exact h.elim
    | [_], h => exact h.elim
    | [a, b], _ => exact ⟨a, b, rfl⟩
    | _ :: _ :: _ :: _, h => exact h.elim
  unfold clo63 at h
  dsimp only at h
  refine ⟨⟨_, Tryd.func57, rfl, by decide⟩, fun S w ρ u hm hks hu => ?_⟩
  have hh := hks kh (by simp)
  have he := hks ke (by simp)
  split at h
  · refine clo63_ret _ _ w _ ⟨_, own, S, ρ, rfl, rfl, h, hm, .refl _ w, fun _ _ h => h, fun _ _ h => .inl h, .refl _, fun _ _ _ => rfl, fun _ _ h => .inl h⟩
  · split at h
    · exact h.elim
    · split at h
      · split at h
        · rename_i t y e
          obtain rfl := Nat.eq_of_beq_eq_true e
          have hv := (hu _ rfl).2 _ rfl
          cases hv with
          | ifc _ _ x hx =>
            refine clo63_pan kh ke x _ rfl hm hh he h _ fun st' S' ρ' a' w' hR hr => ?_
            exact ⟨_, st'.own, S', ρ', rfl, rfl, hR, hr.mem, hr.keep, hr.sub, hr.sup, hr.le, hr.rho, hr.clB⟩
        · exact h.elim
      · exact h.elim
end Go.Nx
end
section
set_option linter.unusedVariables false
set_option linter.unusedSimpArgs false
set_option maxRecDepth 20000
set_option maxHeartbeats 4000000
namespace Go.Nx
open Go Go.RowKit Go.Proofs

noncomputable def d59 : List T → AnsP
  | [.str s] => .br (s.size ≤ 281474976710656) (isNum s.data.toList) (.int .i64 (atoiN s.data.toList)) (some (.ifc 97 (.str s)))
  | _ => .no
theorem pn59 (vs : List T) (p : Prop) (c : Bool) (x : T) (y : Option T) (h : d59 vs = .br p c x y) (hp : p) : FnPk Tryd.prog tgl 59 vs c x y := by
  unfold d59 at h
  split at h
  · cases h; exact num_run _ hp
  · cases h
noncomputable def lH15a : List (Nat × (List T → Ans)) := (58, c58) :: (29, c29) :: lH14
noncomputable def iH15a : List (Nat × Pt) := iH14
noncomputable abbrev H15a : Env := En tgl lH15a iH15a
theorem env_H15a : EnvOk Tryd.prog H15a := (env_fn (env_fn env_H14 (fun _ _ => got29) (fun vs p d sz xs h _ => (nogl29 vs p d sz xs h).elim) pk29) (fun _ _ => got58) gl58 pk58)
noncomputable def lH15 : List (Nat × (List T → Ans)) := lH15a
noncomputable def iH15 : List (Nat × Pt) := iH15a
noncomputable def pH15 : List (Nat × (List T → AnsP)) := (59, d59) :: []
noncomputable abbrev H15 : Env := EnP pH15 tgl lH15 iH15
theorem env_H15 : EnvOk Tryd.prog H15 := (env_pn env_H15a pn59)
def mA39 : MC := .reg [⟨some 2, .alloc 66 [(.int .i64 0), .nils], none⟩, ⟨some 3, .alloc 67 [(.int .i64 0)], none⟩] none
def mR39 : MC := match m23.body with
  | .seq _ r => match r with
    | .seq _ r => r
    | _ => .skip
  | _ => .skip
def hAns (t : ByteArray) : T := if hP t then .tup [.agg [.int .i64 (hNum t), .list 1 (rs (hObjs t))], .int .i64 0] else .tup [.agg [.int .i64 0, .list 1 (rs [])], .int .i64 2]
theorem hP_none {t : ByteArray} (h : hOk (spl 124 t.data.toList) = false) : hP t = false := by unfold hP; rw [h]; rfl
def modeL (k : Nat) : Own → Nat
  | [] => 9
  | p :: r => match Nat.beq p.1 k with
    | true => match p.2 with
      | .lst _ _ m => m
      | _ => 9
    | false => modeL k r
def nzM (k : Nat) (s : St) (a b : List Nz) : List Nz := match modeL k s.own with
  | 0 => a
  | _ => b
def ownP (n : Int) (ps : List (List UInt8)) (k : Nat) : Own := match k with
  | 0 => [(69, .cells [.t (.int .i64 n), .t .nils]), (77, .lst 1 (ss ps) 1), (67, .cells [.t (.int .i64 0)]), (66, .cells [.t (.int .i64 0), .t .nils])]
  | k + 1 => [(1001, .lst 1 (rs ((ps.tail.take (k + 1)).map rowN)) 1), (69, .cells [.t (.int .i64 n), .sl 1001 0 none]), (77, .lst 1 (ss ps) 1), (67, .cells [.t (.int .i64 0)]), (66, .cells [.t (.int .i64 0), .t .nils])]
theorem nth_ss1 {l : List (List UInt8)} {i : Int} {K : T → Prop} (h0 : 0 ≤ i) (h1 : i < (l.length : Int) - 1) (h : K (.str ⟨(atB l.tail i).toArray⟩)) : nthK (subL (ss l) 1 none) i K := by
  have e : subL (ss l) 1 none = ss l.tail := by
    rw [subL_eq]; unfold ss; simp [List.map_tail, List.drop_one]
  rw [e]
  exact nth_ss h0 (by rw [List.length_tail]; omega) h
theorem lenL_1 (l : List (List UInt8)) : lenL (ss l) 1 none = (l.length : Int) - 1 := by
  rw [lenL_eq]; simp [ss_len]
theorem tail_mem {c : UInt8} {l : List UInt8} {k : Nat} (h : k < (spl c l).length - 1) : atB (spl c l).tail (k : Int) ∈ (spl c l).tail ∧ (atB (spl c l).tail (k : Int)).length ≤ l.length := by
  have hm : atB (spl c l).tail (k : Int) ∈ (spl c l).tail := by
    unfold atB
    rw [Int.toNat_natCast, List.getD_eq_getElem?_getD, List.getElem?_eq_getElem (by rw [List.length_tail]; exact h)]
    exact List.getElem_mem _
  exact ⟨hm, spl_piece c (List.mem_of_mem_tail hm)⟩
theorem hOk_bad {t : List UInt8} {p : List UInt8} (h : p ∈ (spl 124 t).tail) (hb : allN (spl 44 p) = false) : hOk (spl 124 t) = false := by
  unfold hOk
  split
  · rfl
  · rename_i a r e
    rw [e, List.tail_cons] at h
    have : r.all (fun p => allN (spl 44 p)) = false := by
      rw [← Bool.not_eq_true, List.all_eq_true]
      intro ha
      rw [ha p h] at hb; cases hb
    rw [this, Bool.and_false]
theorem allN_iff {l : List (List UInt8)} : allN l = true ↔ ∀ w ∈ l, isNum w = true := by
  induction l with
  | nil => simp [allN]
  | cons x r ih => rw [allN, Bool.and_eq_true, ih]; simp
theorem atB_mem {l : List (List UInt8)} {j : Nat} (h : j < l.length) : atB l (j : Int) ∈ l := by
  unfold atB
  rw [Int.toNat_natCast, List.getD_eq_getElem?_getD, List.getElem?_eq_getElem h]
  exact List.getElem_mem h
theorem allN_bad {l : List (List UInt8)} {j : Nat} (h : j < l.length) (hb : isNum (atB l (j : Int)) = false) : allN l = false := by
  rw [← Bool.not_eq_true, allN_iff]
  intro ha
  rw [ha _ (atB_mem h)] at hb; cases hb
theorem isnoc {l : List (List UInt8)} {j : Nat} (h : j < l.length) : is ((l.take j).map atoiN) ++ [T.int .i64 (atoiN (atB l (j : Int)))] = is ((l.take (j + 1)).map atoiN) := by
  have e : l[j]? = some (atB l (j : Int)) := by
    unfold atB
    rw [Int.toNat_natCast, List.getD_eq_getElem?_getD, List.getElem?_eq_getElem h]; rfl
  rw [List.take_add_one, e]
  simp [is]
theorem rs_snoc {l : List (List UInt8)} {k : Nat} (h : k < l.length) {r : List Int} (hr : r = rowN (atB l (k : Int))) : rs ((l.take k).map rowN) ++ [T.list 1 (is r)] = rs ((l.take (k + 1)).map rowN) := by
  have e : l[k]? = some (atB l (k : Int)) := by
    unfold atB
    rw [Int.toNat_natCast, List.getD_eq_getElem?_getD, List.getElem?_eq_getElem h]; rfl
  subst hr
  rw [List.take_add_one, e]
  simp [rs]
theorem tail_piece (c : UInt8) : ∀ {l p : List UInt8}, p ∈ (spl c l).tail → p.length + 1 ≤ l.length
  | [], p, h => by simp [spl] at h
  | b :: l, p, h => by
    by_cases hb : b = c
    · rw [spl, if_pos hb, List.tail_cons] at h
      have := spl_piece c h
      rw [List.length_cons]; omega
    · rw [spl, if_neg hb, List.tail_cons] at h
      have := tail_piece c (l := l) h
      rw [List.length_cons]; omega
theorem atoiN_64 (w : List UInt8) : I64 (atoiN w) := by
  unfold atoiN I64
  split
  · rename_i v h
    unfold Lib.atoiAll at h
    split at h
    · cases h
    · dsimp only at h
      split at h
      · cases h
      · cases h
      · split at h
        · cases h
        · split at h
          · cases h
          · injection h with h
            subst h
            split <;> omega
  · unfold Lib.atoiSat
    split <;> omega
  · omega
theorem isH_parts {t : ByteArray} (ht : t.size ≤ 1048576) (k : Nat) : IsH (rs (((spl 124 t.data.toList).tail.take k).map rowN)) := by
  have hlen := spl_len 124 t.data.toList
  have hcnt : t.data.toList.count 124 ≤ t.size := by have := List.count_le_length (a := (124 : UInt8)) (l := t.data.toList); rw [Array.length_toList] at this; exact this
  refine ⟨_, rfl, ?_, fun l hl => ?_⟩
  · rw [List.length_map, List.length_take, List.length_tail]; omega
  · obtain ⟨p, hp, rfl⟩ := List.mem_map.1 hl
    have h1 := tail_piece 124 (List.mem_of_mem_take hp)
    have e5 : t.data.toList.length = t.data.size := Array.length_toList
    have h2 : t.data.size ≤ 1048576 := ht
    have h3 := spl_len 44 p
    have h4 : p.count 44 ≤ p.length := List.count_le_length
    unfold rowN
    refine ⟨by rw [List.length_map]; omega, fun n hn => ?_⟩
    obtain ⟨w, _, rfl⟩ := List.mem_map.1 hn
    exact atoiN_64 w
theorem ownP_succ {n : Int} {ps : List (List UInt8)} {k : Nat} {r : List T} (e : r = rs ((ps.tail.take (k + 1)).map rowN)) : ownP n ps (k + 1) = [(1001, .lst 1 r 1), (69, .cells [.t (.int .i64 n), .sl 1001 0 none]), (77, .lst 1 (ss ps) 1), (67, .cells [.t (.int .i64 0)]), (66, .cells [.t (.int .i64 0), .t .nils])] := by subst e; rfl
theorem tup_nil {n z : Int} : ∀ (S : Cells) (w : World) (v : Value), RelT S w (.tup [.agg [.int .i64 n, .nils], .int .i64 z]) v → RelT S w (.tup [.agg [.int .i64 n, .list 1 (rs [])], .int .i64 z]) v := fun S w v hv => by
  cases hv with
  | tup cs arr hn hh =>
    refine .tup _ arr hn fun i c u hc hu => ?_
    match i with
    | 0 => simp at hc; subst hc; exact agg_nil _ _ _ (hh 0 _ u rfl hu)
    | 1 => simp at hc; subst hc; exact hh 1 _ u rfl hu
    | i + 2 => simp at hc
theorem parse_run (t : ByteArray) (ht : t.size ≤ 1048576) : FnOk Tryd.prog tgl 23 [.str t] (hAns t) := by
  refine fnD_ok env_H15 Tryd.func23 rfl (by decide) (mA := mA39) (mR := mR39) (g := 57) (t1 := 11) (ts := [2, 3]) (rs := m23.res) (clo := clo63) (by kernel_rfl) ⟨_, _, _, _, _, rfl, rfl, rfl, rfl, rfl, rfl, rfl, rfl, rfl, rfl⟩ (by kernel_rfl) (by kernel_rfl) def63 ?_
  have hlen := spl_len 124 t.data.toList
  have hcnt : t.data.toList.count 124 ≤ t.size := by have := List.count_le_length (a := (124 : UInt8)) (l := t.data.toList); rw [Array.length_toList] at this; exact this
  have hlen' : (spl (sep1 ⟨#[124]⟩) t.data.toList).length = t.data.toList.count 124 + 1 := hlen
  have es : sep1 ⟨#[124]⟩ = 124 := rfl
  -- what comes of a fault
  have bad0 : hP t = false → ∀ (S : Cells) (w : World) (v : Value), RelT S w (.tup [.agg [.int .i64 0, .nils], .int .i64 2]) v → RelT S w (hAns t) v := fun h S w v hv => by
    unfold hAns
    rw [if_neg (by rw [h]; decide)]
    cases hv with
    | tup cs arr hn hh =>
      refine .tup _ arr hn fun i c u hc hu => ?_
      match i with
      | 0 => simp at hc; subst hc; exact agg_nil _ _ _ (hh 0 _ u rfl hu)
      | 1 => simp at hc; subst hc; exact hh 1 _ u rfl hu
      | i + 2 => simp at hc
  have bad : hOk (spl 124 t.data.toList) = false → ∀ (S : Cells) (w : World) (v : Value), RelT S w (.tup [.agg [.int .i64 0, .nils], .int .i64 2]) v → RelT S w (hAns t) v := fun h => bad0 (hP_none h)
  have ltl : (spl 124 t.data.toList).tail.length = t.data.toList.count 124 := by rw [List.length_tail, hlen]; rfl
  have okAll : isNum ((spl 124 t.data.toList).headD []) = true → (∀ j : Nat, j < t.data.toList.count 124 → allN (spl 44 (atB (spl 124 t.data.toList).tail (j : Int))) = true) → hOk (spl 124 t.data.toList) = true := fun h0 h1 => by
    unfold hOk
    split
    · rename_i e; exact absurd e (spl_ne _ _)
    · rename_i a r e
      rw [e] at h0 h1 ltl
      rw [show isNum a = true from h0, Bool.true_and, List.all_eq_true]
      intro p hp
      obtain ⟨j, hj, rfl⟩ := List.mem_iff_getElem.1 hp
      have := h1 j (by rw [← ltl]; exact hj)
      unfold atB at this
      rw [Int.toNat_natCast, List.tail_cons, List.getD_eq_getElem?_getD, List.getElem?_eq_getElem hj] at this
      exact this
  have hhd : atB (spl 124 t.data.toList) 0 = (spl 124 t.data.toList).headD [] := by
    unfold atB
    cases hs : spl 124 t.data.toList with
    | nil => rfl
    | cons a r => rfl
  conv => whnf
  repeat' (first
    | (refine brK_true rfl ?_; conv => whnf)
    | (refine brK_false rfl ?_; conv => whnf)
    | (refine brK_true (by assumption) ?_; conv => whnf)
    | (refine brK_false (by assumption) ?_; conv => whnf)
    | (refine brK_true ?_ ?_; (focus (simp only [List.length_nil, fx, ss_len] <;> omega)); conv => whnf)
    | (refine brK_false ?_ ?_; (focus (simp only [List.length_nil, fx, ss_len] <;> omega)); conv => whnf)
    | ((refine brK_of (fun h => ?_) (fun h => ?_)) <;> (have h2 := h; (try simp only [List.length_nil, fx, ss_len] at h2); conv => whnf))
    | (refine reqK_of ?_ ?_; (focus (first | decide | omega | assumption | (simp only [List.length_nil, fx, ss_len] <;> omega) | (simp [keyNew, sameKey, kEq] <;> omega))); conv => whnf)
    | (refine reqK_of ?_ ?_; rotate_left; (conv => whnf); rotate_left)
    | (refine nth_ss ?_ ?_ ?_; (focus (first | omega | (simp only [List.length_nil, fx, ss_len] <;> omega))); (focus (first | omega | (simp only [List.length_nil, fx, ss_len] <;> omega))); conv => whnf)
    | (refine nth_us ?_ ?_ ?_; (focus (first | omega | (simp only [List.length_nil, fx, ss_len] <;> omega))); (focus (first | omega | (simp only [List.length_nil, fx, ss_len] <;> omega))); conv => whnf)
    | (refine nth_is ?_ ?_ ?_; (focus (first | omega | (simp only [List.length_nil, fx, ss_len] <;> omega))); (focus (first | omega | (simp only [List.length_nil, fx, ss_len] <;> omega))); conv => whnf)
    | (refine nth_bs ?_ ?_ ?_; (focus (first | omega | (simp only [List.length_nil, fx, ss_len] <;> omega))); (focus (first | omega | (simp only [List.length_nil, fx, ss_len] <;> omega))); conv => whnf))
  · exact ⟨ht, rfl⟩
  · have := atB_len (c := 124) (l := t.data.toList) (k := 0) (by omega)
    show (List.toArray _).size ≤ _
    rw [List.size_toArray]
    rw [Array.length_toList] at this
    exact Nat.le_trans this (Nat.le_trans ht (by decide))
  · have hi0 : isNum ((spl 124 t.data.toList).headD []) = true := by rw [← hhd]; exact h2
    refine loopFn [] (fun s => nzM 107 s [.kill 7, .kill 8, .kill 10, .kill 23, .kill 24, .kill 25, .kill 26, .kill 27, .kill 28, .kill 29, .kill 30, .kill 31, .kill 32, .kill 33, .kill 34, .kill 35, .kill 36, .kill 37, .kill 38, .kill 39, .kill 40, .kill 41, .kill 42, .kill 43, .kill 44, .kill 45, .keep [107, 69, 77, 67, 66], .set 107, .ren 107 1001] [.kill 7, .kill 8, .kill 10, .kill 23, .kill 24, .kill 25, .kill 26, .kill 27, .kill 28, .kill 29, .kill 30, .kill 31, .kill 32, .kill 33, .kill 34, .kill 35, .kill 36, .kill 37, .kill 38, .kill 39, .kill 40, .kill 41, .kill 42, .kill 43, .kill 44, .kill 45, .keep [107, 69, 77, 67, 66], .ren 107 1001]) (fun k : Nat => [(22, .t (.int .i64 (k : Int)))]) (fun k => ownP (hNum t) (spl 124 t.data.toList) k) (fun k => k ≤ t.data.toList.count 124 ∧ ∀ j : Nat, j < k → allN (spl 44 (atB (spl 124 t.data.toList).tail (j : Int))) = true) (fun k => t.data.toList.count 124 - k) 0 ⟨Nat.zero_le _, fun j h => by omega⟩ ?_
    conv => whnf
    refine ⟨⟨rfl, by unfold ownP hNum; rw [← hhd]; rfl⟩, fun k hk C hC => ?_⟩
    obtain ⟨hk1, hk2⟩ := hk
    have hw : IntKind.i64.wrap ((k : Int) + 1) = (k : Int) + 1 := wrap_i64 ⟨by omega, by omega⟩
    have hL : lenL (ss (spl (sep1 ⟨#[124]⟩) t.data.toList)) (Nat.add 0 (Int.toNat 1)) none = (t.data.toList.count 124 : Int) := by
      show lenL (ss (spl 124 t.data.toList)) 1 none = _
      rw [lenL_1, hlen]; omega
    cases k with
    | zero =>
      conv => whnf
      repeat' (first
        | (refine brK_true rfl ?_; conv => whnf)
        | (refine brK_false rfl ?_; conv => whnf)
        | (refine brK_true (by assumption) ?_; conv => whnf)
        | (refine brK_false (by assumption) ?_; conv => whnf)
        | (refine brK_true ?_ ?_; (focus (simp only [List.length_nil, fx, hL, ss_len] <;> omega)); conv => whnf)
        | (refine brK_false ?_ ?_; (focus (simp only [List.length_nil, fx, hL, ss_len] <;> omega)); conv => whnf)
        | ((refine brK_of (fun h => ?_) (fun h => ?_)) <;> (have h2 := h; (try simp only [List.length_nil, fx, hL, ss_len] at h2); conv => whnf))
        | (refine reqK_of ?_ ?_; (focus (first | decide | omega | assumption | (simp only [List.length_nil, fx, hL, ss_len] <;> omega) | (simp [keyNew, sameKey, kEq] <;> omega))); conv => whnf)
        | (refine reqK_of ?_ ?_; rotate_left; (conv => whnf); rotate_left)
        | (refine nth_ss1 ?_ ?_ ?_; (focus (first | omega | (simp only [List.length_nil, fx, hL, ss_len] <;> omega))); (focus (first | omega | (simp only [List.length_nil, fx, hL, ss_len] <;> omega))); conv => whnf)
        | (refine nth_us ?_ ?_ ?_; (focus (first | omega | (simp only [List.length_nil, fx, hL, ss_len] <;> omega))); (focus (first | omega | (simp only [List.length_nil, fx, hL, ss_len] <;> omega))); conv => whnf)
        | (refine nth_is ?_ ?_ ?_; (focus (first | omega | (simp only [List.length_nil, fx, hL, ss_len] <;> omega))); (focus (first | omega | (simp only [List.length_nil, fx, hL, ss_len] <;> omega))); conv => whnf)
        | (refine nth_bs ?_ ?_ ?_; (focus (first | omega | (simp only [List.length_nil, fx, hL, ss_len] <;> omega))); (focus (first | omega | (simp only [List.length_nil, fx, hL, ss_len] <;> omega))); conv => whnf))
      · have hW := tail_mem (c := 124) (l := t.data.toList) (k := 0) (by omega)
        refine ⟨?_, rfl⟩
        show (List.toArray _).size ≤ _
        rw [List.size_toArray]
        have := hW.2; rw [Array.length_toList] at this
        exact Nat.le_trans this ht
      · have hW := tail_mem (c := 124) (l := t.data.toList) (k := 0) (by omega)
        generalize hWW : atB (spl 124 t.data.toList).tail ((0 : Nat) : Int) = W at hW
        have hWl : W.length ≤ 1048576 := by have := hW.2; rw [Array.length_toList] at this; exact Nat.le_trans this ht
        have hwl := spl_len 44 W
        have hwl' : (spl (sep1 ⟨#[44]⟩) W).length = W.count 44 + 1 := hwl
        have hwc : W.count 44 ≤ W.length := List.count_le_length
        refine loopFn [.adopt 8 1002 1] (fun s => [.kill 10, .kill 30, .kill 31, .kill 32, .kill 33, .kill 34, .kill 35, .kill 36, .kill 37, .kill 38, .keep [101, 91, 1001, 69, 77, 67, 66], .ren 101 1002]) (fun j : Nat => [(8, .sl 1002 0 none), (29, .t (.int .i64 (j : Int)))]) (fun j => (1002, .lst 1 (is (((spl 44 W).take j).map atoiN)) 1) :: (91, .lst 1 (ss (spl 44 W)) 1) :: ownP (hNum t) (spl 124 t.data.toList) 0) (fun j => j ≤ (spl 44 W).length ∧ ∀ i : Nat, i < j → isNum (atB (spl 44 W) (i : Int)) = true) (fun j => (spl 44 W).length - j) 0 ⟨Nat.zero_le _, fun i h => by omega⟩ ?_
        conv => whnf
        refine ⟨⟨rfl, rfl⟩, fun j hj C' hC' => ?_⟩
        obtain ⟨hj1, hj2⟩ := hj
        have hwj : IntKind.i64.wrap ((j : Int) + 1) = (j : Int) + 1 := wrap_i64 ⟨by omega, by omega⟩
        conv => whnf
        repeat' (first
          | (refine brK_true rfl ?_; conv => whnf)
          | (refine brK_false rfl ?_; conv => whnf)
          | (refine brK_true (by assumption) ?_; conv => whnf)
          | (refine brK_false (by assumption) ?_; conv => whnf)
          | (refine brK_true ?_ ?_; (focus (simp only [List.length_nil, fx, ss_len] <;> omega)); conv => whnf)
          | (refine brK_false ?_ ?_; (focus (simp only [List.length_nil, fx, ss_len] <;> omega)); conv => whnf)
          | ((refine brK_of (fun h => ?_) (fun h => ?_)) <;> (have h2 := h; (try simp only [List.length_nil, fx, ss_len] at h2); conv => whnf))
          | (refine reqK_of ?_ ?_; (focus (first | decide | omega | assumption | (simp only [List.length_nil, fx, ss_len] <;> omega) | (simp [keyNew, sameKey, kEq] <;> omega))); conv => whnf)
          | (refine reqK_of ?_ ?_; rotate_left; (conv => whnf); rotate_left)
          | (refine nth_ss ?_ ?_ ?_; (focus (first | omega | (simp only [List.length_nil, fx, ss_len] <;> omega))); (focus (first | omega | (simp only [List.length_nil, fx, ss_len] <;> omega))); conv => whnf)
          | (refine nth_us ?_ ?_ ?_; (focus (first | omega | (simp only [List.length_nil, fx, ss_len] <;> omega))); (focus (first | omega | (simp only [List.length_nil, fx, ss_len] <;> omega))); conv => whnf)
          | (refine nth_is ?_ ?_ ?_; (focus (first | omega | (simp only [List.length_nil, fx, ss_len] <;> omega))); (focus (first | omega | (simp only [List.length_nil, fx, ss_len] <;> omega))); conv => whnf)
          | (refine nth_bs ?_ ?_ ?_; (focus (first | omega | (simp only [List.length_nil, fx, ss_len] <;> omega))); (focus (first | omega | (simp only [List.length_nil, fx, ss_len] <;> omega))); conv => whnf))
        · have := atB_len (c := 44) (l := W) (k := j) (by omega)
          show (List.toArray _).size ≤ _
          rw [List.size_toArray]
          exact Nat.le_trans this (Nat.le_trans hWl (by decide))
        · rw [is_len, List.length_map, List.length_take]; unfold maxBytes; simp only [List.length_cons, List.length_nil]; omega
        · refine loopC (hC' (j + 1) ⟨by omega, fun i hi => ?_⟩ (by omega)) ?_
          · rcases Nat.lt_succ_iff_lt_or_eq.1 hi with h | h
            · exact hj2 i h
            · subst h; assumption
          · rw [← isnoc (by omega), hwj, Int.natCast_succ]; rfl
        · exact bad (hOk_bad hW.1 (allN_bad (j := j) (by omega) h2))
        · rw [List.length_cons, List.length_nil]; unfold maxBytes; omega
        · refine loopC (hC (0 + 1) ⟨by omega, fun i hi => ?_⟩ (by omega)) ?_
          · rcases Nat.lt_succ_iff_lt_or_eq.1 hi with h | h
            · exact hk2 i h
            · subst h
              rw [hWW]
              refine allN_iff.2 fun w hw => ?_
              obtain ⟨q, hq, rfl⟩ := List.mem_iff_getElem.1 hw
              have := hj2 q (by omega)
              unfold atB at this
              rw [Int.toNat_natCast, List.getD_eq_getElem?_getD, List.getElem?_eq_getElem hq] at this
              exact this
          · have e1 : List.take j (spl 44 W) = spl 44 W := List.take_of_length_le (by omega)
            have e2 := rs_snoc (l := (spl 124 t.data.toList).tail) (k := 0) (by omega) (r := (spl 44 W).map atoiN) (by rw [hWW]; rfl)
            rw [e1, hw, ownP_succ e2]
            rfl
      · have hk3 : 0 = t.data.toList.count 124 := by omega
        have hobj : hObjs t = [] := by unfold hObjs; rw [show (spl 124 t.data.toList).tail = [] from List.eq_nil_of_length_eq_zero (by rw [ltl]; omega)]; rfl
        refine bad0 ?_
        unfold hP
        rw [hobj, decide_eq_false (fun e => by rw [eqS_iff.2 e] at h2; cases h2), Bool.and_false]
      · have hk3 : 0 = t.data.toList.count 124 := by omega
        have hobj : hObjs t = [] := by unfold hObjs; rw [show (spl 124 t.data.toList).tail = [] from List.eq_nil_of_length_eq_zero (by rw [ltl]; omega)]; rfl
        have hp : hP t = true := by
          unfold hP
          rw [okAll hi0 (by rw [← hk3]; exact hk2), hobj, decide_eq_true (eqS_iff.1 h2)]; rfl
        unfold hAns
        rw [if_pos hp, hobj]
        exact tup_nil
    | succ k =>
      conv => whnf
      repeat' (first
        | (refine brK_true rfl ?_; conv => whnf)
        | (refine brK_false rfl ?_; conv => whnf)
        | (refine brK_true (by assumption) ?_; conv => whnf)
        | (refine brK_false (by assumption) ?_; conv => whnf)
        | (refine brK_true ?_ ?_; (focus (simp only [List.length_nil, fx, hL, ss_len] <;> omega)); conv => whnf)
        | (refine brK_false ?_ ?_; (focus (simp only [List.length_nil, fx, hL, ss_len] <;> omega)); conv => whnf)
        | ((refine brK_of (fun h => ?_) (fun h => ?_)) <;> (have h2 := h; (try simp only [List.length_nil, fx, hL, ss_len] at h2); conv => whnf))
        | (refine reqK_of ?_ ?_; (focus (first | decide | omega | assumption | (simp only [List.length_nil, fx, hL, ss_len] <;> omega) | (simp [keyNew, sameKey, kEq] <;> omega))); conv => whnf)
        | (refine reqK_of ?_ ?_; rotate_left; (conv => whnf); rotate_left)
        | (refine nth_ss1 ?_ ?_ ?_; (focus (first | omega | (simp only [List.length_nil, fx, hL, ss_len] <;> omega))); (focus (first | omega | (simp only [List.length_nil, fx, hL, ss_len] <;> omega))); conv => whnf)
        | (refine nth_us ?_ ?_ ?_; (focus (first | omega | (simp only [List.length_nil, fx, hL, ss_len] <;> omega))); (focus (first | omega | (simp only [List.length_nil, fx, hL, ss_len] <;> omega))); conv => whnf)
        | (refine nth_is ?_ ?_ ?_; (focus (first | omega | (simp only [List.length_nil, fx, hL, ss_len] <;> omega))); (focus (first | omega | (simp only [List.length_nil, fx, hL, ss_len] <;> omega))); conv => whnf)
        | (refine nth_bs ?_ ?_ ?_; (focus (first | omega | (simp only [List.length_nil, fx, hL, ss_len] <;> omega))); (focus (first | omega | (simp only [List.length_nil, fx, hL, ss_len] <;> omega))); conv => whnf))
      · have hW := tail_mem (c := 124) (l := t.data.toList) (k := k + 1) (by omega)
        refine ⟨?_, rfl⟩
        show (List.toArray _).size ≤ _
        rw [List.size_toArray]
        have := hW.2; rw [Array.length_toList] at this
        exact Nat.le_trans this ht
      · have hW := tail_mem (c := 124) (l := t.data.toList) (k := k + 1) (by omega)
        generalize hWW : atB (spl 124 t.data.toList).tail ((k + 1 : Nat) : Int) = W at hW
        have hWl : W.length ≤ 1048576 := by have := hW.2; rw [Array.length_toList] at this; exact Nat.le_trans this ht
        have hwl := spl_len 44 W
        have hwl' : (spl (sep1 ⟨#[44]⟩) W).length = W.count 44 + 1 := hwl
        have hwc : W.count 44 ≤ W.length := List.count_le_length
        refine loopFn [.adopt 8 1002 1] (fun s => [.kill 10, .kill 30, .kill 31, .kill 32, .kill 33, .kill 34, .kill 35, .kill 36, .kill 37, .kill 38, .keep [101, 91, 1001, 69, 77, 67, 66], .ren 101 1002]) (fun j : Nat => [(8, .sl 1002 0 none), (29, .t (.int .i64 (j : Int)))]) (fun j => (1002, .lst 1 (is (((spl 44 W).take j).map atoiN)) 1) :: (91, .lst 1 (ss (spl 44 W)) 1) :: ownP (hNum t) (spl 124 t.data.toList) (k + 1)) (fun j => j ≤ (spl 44 W).length ∧ ∀ i : Nat, i < j → isNum (atB (spl 44 W) (i : Int)) = true) (fun j => (spl 44 W).length - j) 0 ⟨Nat.zero_le _, fun i h => by omega⟩ ?_
        conv => whnf
        refine ⟨⟨rfl, rfl⟩, fun j hj C' hC' => ?_⟩
        obtain ⟨hj1, hj2⟩ := hj
        have hwj : IntKind.i64.wrap ((j : Int) + 1) = (j : Int) + 1 := wrap_i64 ⟨by omega, by omega⟩
        conv => whnf
        repeat' (first
          | (refine brK_true rfl ?_; conv => whnf)
          | (refine brK_false rfl ?_; conv => whnf)
          | (refine brK_true (by assumption) ?_; conv => whnf)
          | (refine brK_false (by assumption) ?_; conv => whnf)
          | (refine brK_true ?_ ?_; (focus (simp only [List.length_nil, fx, ss_len] <;> omega)); conv => whnf)
          | (refine brK_false ?_ ?_; (focus (simp only [List.length_nil, fx, ss_len] <;> omega)); conv => whnf)
          | ((refine brK_of (fun h => ?_) (fun h => ?_)) <;> (have h2 := h; (try simp only [List.length_nil, fx, ss_len] at h2); conv => whnf))
          | (refine reqK_of ?_ ?_; (focus (first | decide | omega | assumption | (simp only [List.length_nil, fx, ss_len] <;> omega) | (simp [keyNew, sameKey, kEq] <;> omega))); conv => whnf)
          | (refine reqK_of ?_ ?_; rotate_left; (conv => whnf); rotate_left)
          | (refine nth_ss ?_ ?_ ?_; (focus (first | omega | (simp only [List.length_nil, fx, ss_len] <;> omega))); (focus (first | omega | (simp only [List.length_nil, fx, ss_len] <;> omega))); conv => whnf)
          | (refine nth_us ?_ ?_ ?_; (focus (first | omega | (simp only [List.length_nil, fx, ss_len] <;> omega))); (focus (first | omega | (simp only [List.length_nil, fx, ss_len] <;> omega))); conv => whnf)
          | (refine nth_is ?_ ?_ ?_; (focus (first | omega | (simp only [List.length_nil, fx, ss_len] <;> omega))); (focus (first | omega | (simp only [List.length_nil, fx, ss_len] <;> omega))); conv => whnf)
          | (refine nth_bs ?_ ?_ ?_; (focus (first | omega | (simp only [List.length_nil, fx, ss_len] <;> omega))); (focus (first | omega | (simp only [List.length_nil, fx, ss_len] <;> omega))); conv => whnf))
        · have := atB_len (c := 44) (l := W) (k := j) (by omega)
          show (List.toArray _).size ≤ _
          rw [List.size_toArray]
          exact Nat.le_trans this (Nat.le_trans hWl (by decide))
        · rw [is_len, List.length_map, List.length_take]; unfold maxBytes; simp only [List.length_cons, List.length_nil]; omega
        · refine loopC (hC' (j + 1) ⟨by omega, fun i hi => ?_⟩ (by omega)) ?_
          · rcases Nat.lt_succ_iff_lt_or_eq.1 hi with h | h
            · exact hj2 i h
            · subst h; assumption
          · rw [← isnoc (by omega), hwj, Int.natCast_succ]; rfl
        · exact bad (hOk_bad hW.1 (allN_bad (j := j) (by omega) h2))
        · rw [rs_len, List.length_map, List.length_take, List.length_cons, List.length_nil]; unfold maxBytes; omega
        · refine loopC (hC ((k + 1) + 1) ⟨by omega, fun i hi => ?_⟩ (by omega)) ?_
          · rcases Nat.lt_succ_iff_lt_or_eq.1 hi with h | h
            · exact hk2 i h
            · subst h
              rw [hWW]
              refine allN_iff.2 fun w hw => ?_
              obtain ⟨q, hq, rfl⟩ := List.mem_iff_getElem.1 hw
              have := hj2 q (by omega)
              unfold atB at this
              rw [Int.toNat_natCast, List.getD_eq_getElem?_getD, List.getElem?_eq_getElem hq] at this
              exact this
          · have e1 : List.take j (spl 44 W) = spl 44 W := List.take_of_length_le (by omega)
            have e2 := rs_snoc (l := (spl 124 t.data.toList).tail) (k := (k + 1)) (by omega) (r := (spl 44 W).map atoiN) (by rw [hWW]; rfl)
            rw [e1, hw, ownP_succ e2]
            rfl
      · exact isH_parts ht (k + 1)
      · have hk3 : k + 1 = t.data.toList.count 124 := by omega
        have hobj : hObjs t = ((spl 124 t.data.toList).tail.take (k + 1)).map rowN := by unfold hObjs; rw [List.take_of_length_le (by rw [ltl]; omega)]
        rw [subL_00, rowsOf_rs] at h2
        refine bad0 ?_
        unfold hP
        rw [hobj, decide_eq_false (fun e => by rw [eqS_iff.2 e] at h2; cases h2), Bool.and_false]
      · have hk3 : k + 1 = t.data.toList.count 124 := by omega
        have hobj : hObjs t = ((spl 124 t.data.toList).tail.take (k + 1)).map rowN := by unfold hObjs; rw [List.take_of_length_le (by rw [ltl]; omega)]
        rw [subL_00, rowsOf_rs] at h2
        have hp : hP t = true := by
          unfold hP
          rw [okAll hi0 (by rw [← hk3]; exact hk2), hobj, decide_eq_true (eqS_iff.1 h2)]; rfl
        unfold hAns
        rw [if_pos hp, hobj]
        exact fun _ _ _ h => h
  · refine bad ?_
    rw [es, hhd] at h2
    unfold hOk
    split
    · rfl
    · rename_i a r e
      rw [e] at h2
      rw [show isNum a = false from h2, Bool.false_and]
end Go.Nx
end
section
set_option linter.unusedVariables false
set_option linter.unusedSimpArgs false
set_option maxRecDepth 20000
set_option maxHeartbeats 4000000
namespace Go.Nx
open Go Go.RowKit Go.Proofs

noncomputable def lH17 : List (Nat × (List T → Ans)) := (29, c29) :: lH14
noncomputable def iH17 : List (Nat × Pt) := (56, inl H0 m56) :: (1000056, ptNo) :: iH14
noncomputable abbrev H17 : Env := En tgl lH17 iH17
theorem env_H17 : EnvOk Tryd.prog H17 := (env_fn (env_in (env_flag env_H14) env_H0 Tryd.func56 low56) (fun _ _ => got29) (fun vs p d sz xs h _ => (nogl29 vs p d sz xs h).elim) pk29)
theorem clip_in {base : Nat} (L : List (List Int)) {R : V → Own → Prop} (h : R (.cl 1 (rs L)) []) : inl H0 m56 base [.t (.list 1 (rs L))] [] R := by
  unfold inl
  conv => whnf
  repeat' (first
    | (refine brK_true rfl ?_; conv => whnf)
    | (refine brK_false rfl ?_; conv => whnf)
    | (refine brK_true (by assumption) ?_; conv => whnf)
    | (refine brK_false (by assumption) ?_; conv => whnf)
    | (refine brK_true ?_ ?_; (focus (simp only [List.length_nil, fx, rs_len] <;> omega)); conv => whnf)
    | (refine brK_false ?_ ?_; (focus (simp only [List.length_nil, fx, rs_len] <;> omega)); conv => whnf)
    | ((refine brK_of (fun h => ?_) (fun h => ?_)) <;> (have h2 := h; (try simp only [List.length_nil, fx, rs_len] at h2); conv => whnf))
    | (refine reqK_of ?_ ?_; (focus (first | decide | omega | assumption | (simp only [List.length_nil, fx, rs_len] <;> omega) | (simp [keyNew, sameKey, kEq] <;> omega))); conv => whnf)
    | (refine reqK_of ?_ ?_; rotate_left; (conv => whnf); rotate_left)
    | (refine nth_us ?_ ?_ ?_; (focus (first | omega | (simp only [List.length_nil, fx, rs_len] <;> omega))); (focus (first | omega | (simp only [List.length_nil, fx, rs_len] <;> omega))); conv => whnf)
    | (refine nth_is ?_ ?_ ?_; (focus (first | omega | (simp only [List.length_nil, fx, rs_len] <;> omega))); (focus (first | omega | (simp only [List.length_nil, fx, rs_len] <;> omega))); conv => whnf)
    | (refine nth_bs ?_ ?_ ?_; (focus (first | omega | (simp only [List.length_nil, fx, rs_len] <;> omega))); (focus (first | omega | (simp only [List.length_nil, fx, rs_len] <;> omega))); conv => whnf))
  show R (.cl 1 ((rs L).take (((rs L).length : Nat) : Int).toNat)) []
  rw [Int.toNat_natCast, List.take_length]
  exact h
theorem ptL_head {n : Nat} {g : Pt} {r : List (Nat × Pt)} {base : Nat} {args : List V} {own : Own} {R : V → Own → Prop} (h : g base args own R) : ptL ((n, g) :: r) n base args own R := by
  simp only [ptL]; rw [Nat.beq_refl]; exact h
theorem clip_pt (L : List (List Int)) {args : List V} (ha : args = [.t (.list 1 (rs L))]) {base : Nat} : H17.pt 56 base args [] (fun v' own' => v' = .cl 1 (rs L) ∧ own' = []) := by
  subst ha
  have e : H17.pt = ptL iH17 := rfl
  rw [e]
  unfold iH17
  exact ptL_head (clip_in L ⟨rfl, rfl⟩)
def hAl (n : Int) (L : List (List Int)) (most : Int) : T := if hRight n L then (if (L.length : Int) < most ∧ L.length < 64 then .tup [.agg [.int .i64 n, .list 1 (rs (L ++ [List.replicate n.toNat 0]))], .int .i64 ((L.length : Int) + 1), .int .i64 0] else .tup [.agg [.int .i64 n, .list 1 (rs L)], .int .i64 0, .int .i64 4]) else .tup [.agg [.int .i64 n, .list 1 (rs L)], .int .i64 0, .int .i64 1]
theorem ok21 (n most : Int) (xs : List T) (hq : IsH xs ∧ I64 most) : FnOk Tryd.prog tgl 21 [.agg [.int .i64 n, .list 1 xs], .int .i64 most] (hAl n (rowsOf xs) most) := by
  refine fn_ok (Γ := H17) env_H17 Tryd.func21 low21 ?_
  obtain ⟨⟨L, rfl, hl, hL⟩, hm⟩ := hq
  have hq1 : IsH (rs L) := ⟨L, rfl, hl, hL⟩
  unfold I64 at hm
  unfold hAl
  rw [rowsOf_rs]
  cases hr : hRight n L
  · have hr' : hRight n (rowsOf (rs L)) = false := by rw [rowsOf_rs]; exact hr
    conv => whnf
    repeat' (first
      | (refine brK_true rfl ?_; conv => whnf)
      | (refine brK_false rfl ?_; conv => whnf)
      | (refine brK_true (by assumption) ?_; conv => whnf)
      | (refine brK_false (by assumption) ?_; conv => whnf)
      | (refine brK_true ?_ ?_; (focus (simp only [List.length_nil, fx, rs_len, hr'] <;> omega)); conv => whnf)
      | (refine brK_false ?_ ?_; (focus (simp only [List.length_nil, fx, rs_len, hr'] <;> omega)); conv => whnf)
      | ((refine brK_of (fun h => ?_) (fun h => ?_)) <;> (have h2 := h; (try simp only [List.length_nil, fx, rs_len, hr'] at h2); conv => whnf))
      | (refine reqK_of ?_ ?_; (focus (first | decide | omega | assumption | (simp only [List.length_nil, fx, rs_len, hr'] <;> omega) | (simp [keyNew, sameKey, kEq] <;> omega))); conv => whnf)
      | (refine reqK_of ?_ ?_; rotate_left; (conv => whnf); rotate_left)
      | (refine nth_us ?_ ?_ ?_; (focus (first | omega | (simp only [List.length_nil, fx, rs_len, hr'] <;> omega))); (focus (first | omega | (simp only [List.length_nil, fx, rs_len, hr'] <;> omega))); conv => whnf)
      | (refine nth_is ?_ ?_ ?_; (focus (first | omega | (simp only [List.length_nil, fx, rs_len, hr'] <;> omega))); (focus (first | omega | (simp only [List.length_nil, fx, rs_len, hr'] <;> omega))); conv => whnf)
      | (refine nth_bs ?_ ?_ ?_; (focus (first | omega | (simp only [List.length_nil, fx, rs_len, hr'] <;> omega))); (focus (first | omega | (simp only [List.length_nil, fx, rs_len, hr'] <;> omega))); conv => whnf))
    all_goals rfl
  · have hr' : hRight n (rowsOf (rs L)) = true := by rw [rowsOf_rs]; exact hr
    obtain ⟨⟨h1, h2⟩, h3⟩ := right_le hr
    obtain ⟨⟨_, _, h64⟩, h4⟩ := hRight_iff.1 hr
    conv => whnf
    repeat' (first
      | (refine brK_true rfl ?_; conv => whnf)
      | (refine brK_false rfl ?_; conv => whnf)
      | (refine brK_true (by assumption) ?_; conv => whnf)
      | (refine brK_false (by assumption) ?_; conv => whnf)
      | (refine brK_true ?_ ?_; (focus (simp only [List.length_nil, fx, rs_len, hr'] <;> omega)); conv => whnf)
      | (refine brK_false ?_ ?_; (focus (simp only [List.length_nil, fx, rs_len, hr'] <;> omega)); conv => whnf)
      | ((refine brK_of (fun h => ?_) (fun h => ?_)) <;> (have h2 := h; (try simp only [List.length_nil, fx, rs_len, hr'] at h2); conv => whnf))
      | (refine reqK_of ?_ ?_; (focus (first | decide | omega | assumption | (simp only [List.length_nil, fx, rs_len, hr'] <;> omega) | (simp [keyNew, sameKey, kEq] <;> omega))); conv => whnf)
      | (refine reqK_of ?_ ?_; rotate_left; (conv => whnf); rotate_left)
      | (refine nth_us ?_ ?_ ?_; (focus (first | omega | (simp only [List.length_nil, fx, rs_len, hr'] <;> omega))); (focus (first | omega | (simp only [List.length_nil, fx, rs_len, hr'] <;> omega))); conv => whnf)
      | (refine nth_is ?_ ?_ ?_; (focus (first | omega | (simp only [List.length_nil, fx, rs_len, hr'] <;> omega))); (focus (first | omega | (simp only [List.length_nil, fx, rs_len, hr'] <;> omega))); conv => whnf)
      | (refine nth_bs ?_ ?_ ?_; (focus (first | omega | (simp only [List.length_nil, fx, rs_len, hr'] <;> omega))); (focus (first | omega | (simp only [List.length_nil, fx, rs_len, hr'] <;> omega))); conv => whnf))
    · rw [if_pos rfl, if_neg]
      rintro ⟨ha, hb⟩
      rw [minI_def] at h2
      split at h2 <;> omega
    · have hlt : (L.length : Int) < most ∧ L.length < 64 := by rw [minI_def] at h2; split at h2 <;> omega
      rw [if_pos rfl, if_pos hlt]
      refine drK_of [] (.cl 1 (rs L)) ⟨⟨rfl, (fun p hp => by cases hp), rfl, rfl⟩, clip_pt L rfl, ?_⟩
      conv => whnf
      repeat' (first
        | (refine brK_true rfl ?_; conv => whnf)
        | (refine brK_false rfl ?_; conv => whnf)
        | (refine brK_true (by assumption) ?_; conv => whnf)
        | (refine brK_false (by assumption) ?_; conv => whnf)
        | (refine brK_true ?_ ?_; (focus (simp only [List.length_nil, fx, rs_len] <;> omega)); conv => whnf)
        | (refine brK_false ?_ ?_; (focus (simp only [List.length_nil, fx, rs_len] <;> omega)); conv => whnf)
        | ((refine brK_of (fun h => ?_) (fun h => ?_)) <;> (have h2 := h; (try simp only [List.length_nil, fx, rs_len] at h2); conv => whnf))
        | (refine reqK_of ?_ ?_; (focus (first | decide | omega | assumption | (simp only [List.length_nil, fx, rs_len] <;> omega) | (simp [keyNew, sameKey, kEq] <;> omega))); conv => whnf)
        | (refine reqK_of ?_ ?_; rotate_left; (conv => whnf); rotate_left)
        | (refine nth_us ?_ ?_ ?_; (focus (first | omega | (simp only [List.length_nil, fx, rs_len] <;> omega))); (focus (first | omega | (simp only [List.length_nil, fx, rs_len] <;> omega))); conv => whnf)
        | (refine nth_is ?_ ?_ ?_; (focus (first | omega | (simp only [List.length_nil, fx, rs_len] <;> omega))); (focus (first | omega | (simp only [List.length_nil, fx, rs_len] <;> omega))); conv => whnf)
        | (refine nth_bs ?_ ?_ ?_; (focus (first | omega | (simp only [List.length_nil, fx, rs_len] <;> omega))); (focus (first | omega | (simp only [List.length_nil, fx, rs_len] <;> omega))); conv => whnf))
      · unfold maxBytes; omega
      · rw [rs_len, List.length_cons, List.length_nil]; unfold maxBytes; omega
      · have e : rs L ++ [T.list 1 (subL (List.replicate n.toNat (T.int IntKind.i64 0)) 0 none)] = rs (L ++ [List.replicate n.toNat 0]) := by
          rw [subL_00]; unfold rs is; simp
        have e2 : lenL (rs (L ++ [List.replicate n.toNat 0])) 0 none = (L.length : Int) + 1 := by rw [lenL_eq]; simp
        rw [e, e2, subL_00]
open Classical in
noncomputable def c21 : List T → Ans
  | [.agg [.int .i64 n, .list 1 xs], .int .i64 most] => .req (IsH xs ∧ I64 most) (hAl n (rowsOf xs) most)
  | _ => .no
theorem got21 {vs : List T} {x : T} (h : Got (c21 vs) x) : FnOk Tryd.prog tgl 21 vs x := by
  unfold c21 at h
  split at h
  · obtain ⟨hq, e⟩ := got_req h; rw [e]; exact ok21 _ _ _ hq
  · exact (got_no h).elim
theorem nogl21 (vs : List T) (p : Prop) (d : Decidable p) (sz : Nat) (xs : List T) (h : c21 vs = @Ans.gl p d sz xs) : False := by
  unfold c21 at h
  split at h <;> cases h
theorem pk21 (vs : List T) (p : Prop) (d : Decidable p) (x : T) (h : c21 vs = @Ans.pk p d x) (hp : p) : FnOk Tryd.prog tgl 21 vs x := by
  unfold c21 at h
  split at h
  · cases h
  · cases h
end Go.Nx
end
