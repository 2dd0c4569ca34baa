/-
  A part of the machine, and of what is walked.
-/
import Derived.Test.YtahlhckojmpaaaaDoorP14
import Derived.Tactics2
import Derived.Laws.Pointers
import Derived.KernelRfl
section
set_option linter.unusedVariables false
set_option linter.unusedSimpArgs false
set_option maxRecDepth 20000
set_option maxHeartbeats 4000000
namespace Go.Nx
open Go Go.RowKit Go.Proofs

noncomputable def lK11 : List (Nat × (List T → Ans)) := (85, c85) :: (86, c86) :: lK10
noncomputable def iK11 : List (Nat × Pt) := iK10
noncomputable abbrev K11 : Env := En tgl lK11 iK11
theorem env_K11 : EnvOk Tryd.prog K11 := (env_fn (env_fn env_K10 (fun _ _ => got86) (fun vs p d sz xs h _ => (nogl86 vs p d sz xs h).elim) pk86) (fun _ _ => got85) (fun vs p d sz xs h _ => (nogl85 vs p d sz xs h).elim) pk85)
theorem cutE_len : ∀ l : List UInt8, (cutE l).1.length ≤ l.length ∧ (cutE l).2.length ≤ l.length
  | [] => by simp [cutE]
  | b :: l => by
    have := cutE_len l
    unfold cutE
    split
    · simp
    · simp; omega
def opD : COp := ⟨0, 0, 0, 0⟩
def oneT (s : ByteArray) : T := opT ((oneO s.data.toList).getD opD)
theorem eqS_ba (a b : List UInt8) : eqS (ba a) (ba b) = decide (a = b) := by
  rw [Bool.eq_iff_iff, eqS_iff, decide_eq_true_eq]
  constructor
  · intro h
    have := congrArg (fun x : ByteArray => x.data.toList) h
    simpa [ba] using this
  · intro h; rw [h]
theorem one_run (s : ByteArray) (hs : s.size ≤ 1048576) : FnPk Tryd.prog tgl 75 [.str s] (oneO s.data.toList).isSome (oneT s) none := by
  refine fnP_ok env_K11 Tryd.func75 low75 ?_
  have hsz := sz_list s
  obtain ⟨l1, l2⟩ := cutE_len s.data.toList
  have q1 : (ba (cutE s.data.toList).1).size ≤ 1048576 := by rw [ba_size]; omega
  have q2 : (ba (cutE s.data.toList).2).size ≤ 1048576 := by rw [ba_size]; omega
  have q0 : s.size ≤ 1048576 ∧ (⟨#[61]⟩ : ByteArray) = ⟨#[61]⟩ := ⟨hs, rfl⟩
  have ec : cutT s = .tup [.str (ba (cutE s.data.toList).1), .str (ba (cutE s.data.toList).2), .bool (decide (0 ≤ Lib.indexByte s.data.toList 61))] := rfl
  have er : ∀ l, readT (ba l) = sdT (rd l) := fun l => rfl
  unfold oneT oneO
  cases h1 : rd (cutE s.data.toList).1 <;> cases h2 : rd (cutE s.data.toList).2
  all_goals (have e1 := (er (cutE s.data.toList).1); rw [h1] at e1; have e2 := (er (cutE s.data.toList).2); rw [h2] at e2)
  all_goals
      conv => whnf
      repeat' (first
        | (refine brK_true rfl ?_; conv => whnf)
        | (refine brK_false rfl ?_; conv => whnf)
        | (refine brK_true (by assumption) ?_; conv => whnf)
        | (refine brK_false (by assumption) ?_; conv => whnf)
        | (refine brK_true ?_ ?_; (focus (simp only [List.length_nil, fx] <;> omega)); conv => whnf)
        | (refine brK_false ?_ ?_; (focus (simp only [List.length_nil, fx] <;> omega)); conv => whnf)
        | ((refine brK_of (fun h => ?_) (fun h => ?_)) <;> (have h2 := h; (try simp only [List.length_nil, fx] at h2); conv => whnf))
        | (refine reqK_of ?_ ?_; (focus (first | decide | omega | assumption | (simp only [List.length_nil, fx] <;> omega) | (simp [keyNew, sameKey, kEq] <;> omega))); conv => whnf)
        | (refine reqK_of ?_ ?_; rotate_left; (conv => whnf); rotate_left)
        | (refine nth_us ?_ ?_ ?_; (focus (first | omega | (simp only [List.length_nil, fx] <;> omega))); (focus (first | omega | (simp only [List.length_nil, fx] <;> omega))); conv => whnf)
        | (refine nth_is ?_ ?_ ?_; (focus (first | omega | (simp only [List.length_nil, fx] <;> omega))); (focus (first | omega | (simp only [List.length_nil, fx] <;> omega))); conv => whnf)
        | (refine nth_bs ?_ ?_ ?_; (focus (first | omega | (simp only [List.length_nil, fx] <;> omega))); (focus (first | omega | (simp only [List.length_nil, fx] <;> omega))); conv => whnf))
  all_goals (rw [e1]; dsimp only [sdT])
  all_goals
      conv => whnf
      repeat' (first
        | (refine brK_true rfl ?_; conv => whnf)
        | (refine brK_false rfl ?_; conv => whnf)
        | (refine brK_true (by assumption) ?_; conv => whnf)
        | (refine brK_false (by assumption) ?_; conv => whnf)
        | (refine brK_true ?_ ?_; (focus (simp only [List.length_nil, fx] <;> omega)); conv => whnf)
        | (refine brK_false ?_ ?_; (focus (simp only [List.length_nil, fx] <;> omega)); conv => whnf)
        | ((refine brK_of (fun h => ?_) (fun h => ?_)) <;> (have h2 := h; (try simp only [List.length_nil, fx] at h2); conv => whnf))
        | (refine reqK_of ?_ ?_; (focus (first | decide | omega | assumption | (simp only [List.length_nil, fx] <;> omega) | (simp [keyNew, sameKey, kEq] <;> omega))); conv => whnf)
        | (refine reqK_of ?_ ?_; rotate_left; (conv => whnf); rotate_left)
        | (refine nth_us ?_ ?_ ?_; (focus (first | omega | (simp only [List.length_nil, fx] <;> omega))); (focus (first | omega | (simp only [List.length_nil, fx] <;> omega))); conv => whnf)
        | (refine nth_is ?_ ?_ ?_; (focus (first | omega | (simp only [List.length_nil, fx] <;> omega))); (focus (first | omega | (simp only [List.length_nil, fx] <;> omega))); conv => whnf)
        | (refine nth_bs ?_ ?_ ?_; (focus (first | omega | (simp only [List.length_nil, fx] <;> omega))); (focus (first | omega | (simp only [List.length_nil, fx] <;> omega))); conv => whnf))
  all_goals (try (rw [e2]; dsimp only [sdT]))
  all_goals
      conv => whnf
      repeat' (first
        | (refine brK_true rfl ?_; conv => whnf)
        | (refine brK_false rfl ?_; conv => whnf)
        | (refine brK_true (by assumption) ?_; conv => whnf)
        | (refine brK_false (by assumption) ?_; conv => whnf)
        | (refine brK_true ?_ ?_; (focus (simp only [List.length_nil, fx] <;> omega)); conv => whnf)
        | (refine brK_false ?_ ?_; (focus (simp only [List.length_nil, fx] <;> omega)); conv => whnf)
        | ((refine brK_of (fun h => ?_) (fun h => ?_)) <;> (have h2 := h; (try simp only [List.length_nil, fx] at h2); conv => whnf))
        | (refine reqK_of ?_ ?_; (focus (first | decide | omega | assumption | (simp only [List.length_nil, fx] <;> omega) | (simp [keyNew, sameKey, kEq] <;> omega))); conv => whnf)
        | (refine reqK_of ?_ ?_; rotate_left; (conv => whnf); rotate_left)
        | (refine nth_us ?_ ?_ ?_; (focus (first | omega | (simp only [List.length_nil, fx] <;> omega))); (focus (first | omega | (simp only [List.length_nil, fx] <;> omega))); conv => whnf)
        | (refine nth_is ?_ ?_ ?_; (focus (first | omega | (simp only [List.length_nil, fx] <;> omega))); (focus (first | omega | (simp only [List.length_nil, fx] <;> omega))); conv => whnf)
        | (refine nth_bs ?_ ?_ ?_; (focus (first | omega | (simp only [List.length_nil, fx] <;> omega))); (focus (first | omega | (simp only [List.length_nil, fx] <;> omega))); conv => whnf))
  all_goals first
    | exact ⟨rfl, rfl⟩
    | exact ⟨rfl, .inl rfl⟩
    | skip
  rename_i r w
  rw [e2]
  dsimp only [sdT]
  have k1 : eqS (ba w) (⟨#[110, 101, 119]⟩ : ByteArray) = decide (w = [110, 101, 119]) := eqS_ba _ _
  have k2 : eqS (ba w) (⟨#[48]⟩ : ByteArray) = decide (w = [48]) := eqS_ba _ _
  conv => whnf
  repeat' (first
    | (refine brK_true rfl ?_; conv => whnf)
    | (refine brK_false rfl ?_; conv => whnf)
    | (refine brK_true (by assumption) ?_; conv => whnf)
    | (refine brK_false (by assumption) ?_; conv => whnf)
    | (refine brK_true ?_ ?_; (focus (simp only [List.length_nil, fx] <;> omega)); conv => whnf)
    | (refine brK_false ?_ ?_; (focus (simp only [List.length_nil, fx] <;> omega)); conv => whnf)
    | ((refine brK_of (fun h => ?_) (fun h => ?_)) <;> (have h2 := h; (try simp only [List.length_nil, fx] at h2); conv => whnf))
    | (refine reqK_of ?_ ?_; (focus (first | decide | omega | assumption | (simp only [List.length_nil, fx] <;> omega) | (simp [keyNew, sameKey, kEq] <;> omega))); conv => whnf)
    | (refine reqK_of ?_ ?_; rotate_left; (conv => whnf); rotate_left)
    | (refine nth_us ?_ ?_ ?_; (focus (first | omega | (simp only [List.length_nil, fx] <;> omega))); (focus (first | omega | (simp only [List.length_nil, fx] <;> omega))); conv => whnf)
    | (refine nth_is ?_ ?_ ?_; (focus (first | omega | (simp only [List.length_nil, fx] <;> omega))); (focus (first | omega | (simp only [List.length_nil, fx] <;> omega))); conv => whnf)
    | (refine nth_bs ?_ ?_ ?_; (focus (first | omega | (simp only [List.length_nil, fx] <;> omega))); (focus (first | omega | (simp only [List.length_nil, fx] <;> omega))); conv => whnf))
  all_goals refine ⟨rfl, ?_⟩
  · have a1 := of_decide_eq_true (k1.symm.trans (show eqS (ba w) (⟨#[110, 101, 119]⟩ : ByteArray) = true by assumption))
    subst a1; rfl
  · have a1 := of_decide_eq_false (k1.symm.trans (show eqS (ba w) (⟨#[110, 101, 119]⟩ : ByteArray) = false by assumption))
    have a2 := of_decide_eq_true (k2.symm.trans (show eqS (ba w) (⟨#[48]⟩ : ByteArray) = true by assumption))
    subst a2; rfl
  · have a1 := of_decide_eq_false (k1.symm.trans (show eqS (ba w) (⟨#[110, 101, 119]⟩ : ByteArray) = false by assumption))
    have a2 := of_decide_eq_false (k2.symm.trans (show eqS (ba w) (⟨#[48]⟩ : ByteArray) = false by assumption))
    show _ = opT ⟨kindOf w, r, 0, 0⟩
    unfold kindOf
    rw [if_neg a1, if_neg a2]; rfl
def clo74c : MC := .reg [⟨none, .st 1 (.t 0) (.k .nils), none⟩, ⟨none, .st 1 (.t 1) (.k (.int .i64 2)), none⟩] none
noncomputable def clo74 : DPt := fun md ks own R => match ks with
  | [] => False
  | kh :: r => match r with
    | [] => False
    | ke :: r => match r with
      | _ :: _ => False
      | [] => match md with
        | none => R own
        | some _ => wpx { En tgl [] [] with prot := keysOf own } clo74c ⟨[.ptr kh 0, .ptr ke 0, .dead, .dead], own⟩ fun e st => match e with
          | .normal => R st.own
          | _ => False
theorem clo74_ret (a b : Value) (w : World) (Rr : Ending → FrameMode → World → Prop) (h : Rr (.returned (.tuple #[])) .returning w) : CallsD Tryd.prog 74 #[a, b] .returning w Rr := by
  refine callsD_of_wpS Tryd.func74 rfl fun c₀ cs hm0 => ?_
  apply wpS_seq
  apply wpS_region
  simp [wpOpsS, go_sem, recoverD, hm0, Tryd.ntmps74, Exit.thenS]
  refine wpS_cond (t := false) (by simp [Act.eval, Array.replicate]) ?_
  simp only [Bool.false_eq_true, if_false]
  refine wpS_of_wp (wp_skip ?_)
  cases c₀
  simp_all [bodyPostS, results, Tryd.results74]
theorem good_cloK {Γ : Env} {S : Cells} {w : World} {ρ : Infos} {own : Own} {kh ke n : Nat} {a : Act} (hm : Mem Γ.gl S w ρ own) (hh : ∃ b, look kh own = some b) (he : ∃ b, look ke own = some b) (h0 : a.tmps[0]? = some (.pointer (some ⟨(ρ kh).blk, 0, none⟩)))
    (h1 : a.tmps[1]? = some (.pointer (some ⟨(ρ ke).blk, 0, none⟩))) (hs : a.tmps.size = n + 2) (hd : a.defers = []) : Good { Γ with prot := keysOf own } ⟨w, S, ρ, own, []⟩ ⟨.ptr kh 0 :: .ptr ke 0 :: List.replicate n .dead, own⟩ a w := by
  refine ⟨S, ρ, hm, .refl _ w, hm.lt, fun _ _ h => h, fun _ _ h => .inl h, fun _ _ h => .inl h, .refl _, fun _ _ _ => rfl, fun k b hk => keysOf_look hk, by simp [hs], fun i v u hv hu => ?_, hd⟩
  match i with
  | 0 => obtain ⟨b, hb⟩ := hh; rw [h0] at hu; simp at hv hu; subst hv hu; exact .ptr _ _ b hb
  | 1 => obtain ⟨b, hb⟩ := he; rw [h1] at hu; simp at hv hu; subst hv hu; exact .ptr _ _ b hb
  | i + 2 =>
    simp only [List.getElem?_cons_succ, List.getElem?_replicate] at hv
    split at hv
    · cases hv; exact .dead u
    · cases hv
theorem clo74_pan (kh ke : Nat) (t : TypeId) (x u : Value) {S : Cells} {w : World} {ρ : Infos} {own : Own} {R : Own → Prop} (hu : u = .iface t x) (hm : Mem tgl S w ρ own) (hh : ∃ b, look kh own = some b) (he : ∃ b, look ke own = some b)
    (h : wpx { En tgl [] [] with prot := keysOf own } clo74c ⟨[.ptr kh 0, .ptr ke 0, .dead, .dead], own⟩ fun e st => match e with
      | .normal => R st.own
      | _ => False) (Rr : Ending → FrameMode → World → Prop) (hR : ∀ st' S' ρ' a' w', R st'.own → Rel { En tgl [] [] with prot := keysOf own } ⟨w, S, ρ, own, []⟩ S' ρ' st' a' w' → Rr (.returned (.tuple #[])) (.panicking [{ v := u, recovered := true }]) w') :
    CallsD Tryd.prog 74 #[.pointer (some ⟨(ρ kh).blk, 0, none⟩), .pointer (some ⟨(ρ ke).blk, 0, none⟩)] (.panicking [{ v := u, recovered := false }]) w Rr := by
  subst hu
  refine callsD_of_wpS Tryd.func74 rfl fun c₀ cs hm0 => ?_
  apply wpS_seq
  apply wpS_region
  simp [wpOpsS, go_sem, recoverD, hm0, Tryd.ntmps74, Exit.thenS]
  refine wpS_cond (t := true) (by simp [Act.eval, Array.replicate]) ?_
  simp only [if_true]
  refine wpS_of_wp (wpx_sound (B := ⟨w, S, ρ, own, []⟩) (env_nil.with 0 (keysOf own)) _ clo74c ⟨[.ptr kh 0, .ptr ke 0, .dead, .dead], own⟩ _ w _ _ (by kernel_rfl) h ?_ fun e st' a' w' hK hg' => ?_)
  · exact good_cloK (Γ := En tgl [] []) (n := 2) hm hh he (by simp) (by simp) (by simp) rfl
  · cases e with
    | normal =>
      obtain ⟨S', ρ', hr⟩ := hg'
      exact ⟨hr.defers, _, rfl, .tuple #[], by simp [results, Tryd.results74], hR st' S' ρ' a' w' hK hr⟩
    | exit i => exact hK.elim
    | ret => exact hK.elim
    | pan y => exact hK.elim
theorem def74 (md : Option (Option T)) (ks : List Nat) (own : Own) (R : Own → Prop) (h : clo74 md ks own R) : DefOk Tryd.prog tgl 74 md ks own R := by
  obtain ⟨kh, ke, rfl⟩ : ∃ kh ke, ks = [kh, ke] := by
    match ks, h with
    | [], h => exact h.elim
    | [_], h => exact h.elim
    | [a, b], _ => exact ⟨a, b, rfl⟩
    | _ :: _ :: _ :: _, h => exact h.elim
  unfold clo74 at h
  dsimp only at h
  refine ⟨⟨_, Tryd.func74, rfl, by decide⟩, fun S w ρ u hm hks hu => ?_⟩
  have hh := hks kh (by simp)
  have he := hks ke (by simp)
  split at h
  · refine clo74_ret _ _ w _ ⟨_, own, S, ρ, rfl, rfl, h, hm, .refl _ w, fun _ _ h => h, fun _ _ h => .inl h, .refl _, fun _ _ _ => rfl, fun _ _ h => .inl h⟩
  · rename_i y
    obtain ⟨t, x, e⟩ := (hu y rfl).1
    refine clo74_pan kh ke t x u e hm hh he h _ fun st' S' ρ' a' w' hR hr => ?_
    exact ⟨_, st'.own, S', ρ', rfl, rfl, hR, hr.mem, hr.keep, hr.sub, hr.sup, hr.le, hr.rho, hr.clB⟩
end Go.Nx
end
section
set_option linter.unusedVariables false
set_option linter.unusedSimpArgs false
set_option maxRecDepth 20000
set_option maxHeartbeats 4000000
namespace Go.Nx
open Go Go.RowKit Go.Proofs

noncomputable def d75 : List T → AnsP
  | [.str s] => .br (s.size ≤ 1048576) ((oneO s.data.toList).isSome) (oneT s) (none)
  | _ => .no
theorem pn75 (vs : List T) (p : Prop) (c : Bool) (x : T) (y : Option T) (h : d75 vs = .br p c x y) (hp : p) : FnPk Tryd.prog tgl 75 vs c x y := by
  unfold d75 at h
  split at h
  · cases h; exact one_run _ hp
  · cases h
noncomputable def lK12a : List (Nat × (List T → Ans)) := (64, c64) :: (28, c28) :: lK10
noncomputable def iK12a : List (Nat × Pt) := iK10
noncomputable abbrev K12a : Env := En tgl lK12a iK12a
theorem env_K12a : EnvOk Tryd.prog K12a := (env_fn (env_fn env_K10 (fun _ _ => got28) (fun vs p d sz xs h _ => (nogl28 vs p d sz xs h).elim) pk28) (fun _ _ => got64) gl64 pk64)
noncomputable def lK12 : List (Nat × (List T → Ans)) := lK12a
noncomputable def iK12 : List (Nat × Pt) := iK12a
noncomputable def pK12 : List (Nat × (List T → AnsP)) := (75, d75) :: []
noncomputable abbrev K12 : Env := EnP pK12 tgl lK12 iK12
theorem env_K12 : EnvOk Tryd.prog K12 := (env_pn env_K12a pn75)
def mA48 : MC := .reg [⟨some 2, .alloc 66 [.nils], none⟩, ⟨some 3, .alloc 67 [(.int .i64 0)], none⟩] none
def mR48 : MC := match m48.body with
  | .seq _ r => match r with
    | .seq _ r => r
    | _ => .skip
  | _ => .skip
def opsT (t : ByteArray) : T := match opsO t.data.toList with
  | some l => .tup [.list 4 (os l), .int .i64 0]
  | none => .tup [.list 4 (os []), .int .i64 2]
theorem ops_yes {t : ByteArray} {l : List COp} (h : opsO t.data.toList = some l) : opsT t = .tup [.list 4 (os l), .int .i64 0] := by unfold opsT; rw [h]
theorem ops_no {t : ByteArray} (h : opsO t.data.toList = none) : opsT t = .tup [.list 4 (os []), .int .i64 2] := by unfold opsT; rw [h]
theorem tup_nil4 {b : T} : ∀ (S : Cells) (w : World) (v : Value), RelT S w (.tup [.nils, b]) v → RelT S w (.tup [.list 4 (os []), b]) v := fun S w v hv => by
  cases hv with
  | tup cs arr hn hh =>
    refine .tup _ arr hn fun i c u hc hu => ?_
    match i with
    | 0 => simp at hc; subst hc; exact nil_list 4 (hh 0 _ u rfl hu)
    | 1 => simp at hc; subst hc; exact hh 1 _ u rfl hu
    | i + 2 => simp at hc
def opA (l : List UInt8) : COp := (oneO l).getD opD
def firstOps (W : List (List UInt8)) (k : Nat) : List COp := (W.take k).map opA
theorem first_snoc {W : List (List UInt8)} {k : Nat} (h : k < W.length) : os (firstOps W k) ++ [opT (opA (atB W (k : Int)))] = os (firstOps W (k + 1)) := by
  unfold firstOps os
  have e : W[k]? = some (atB W (k : Int)) := by unfold atB; rw [Int.toNat_natCast, List.getD_eq_getElem?_getD, List.getElem?_eq_getElem h]; rfl
  rw [List.take_add_one, e]
  simp
theorem first_len (W : List (List UInt8)) (k : Nat) : (firstOps W k).length = min k W.length := by unfold firstOps; rw [List.length_map, List.length_take]
theorem all_none {xs : List (Option COp)} {i : Nat} (h : xs[i]? = some none) : allSome xs = none := by
  cases e : allSome xs with
  | none => rfl
  | some l =>
    have := allSome_iff.1 e
    rw [this, List.getElem?_map] at h
    cases hl : l[i]? <;> rw [hl] at h <;> cases h
theorem all_first {W : List (List UInt8)} (h : ∀ j : Nat, j < W.length → (oneO (atB W (j : Int))).isSome = true) : allSome (W.map oneO) = some (firstOps W W.length) := by
  refine allSome_iff.2 ?_
  unfold firstOps
  rw [List.take_length, List.map_map]
  refine List.map_congr_left fun p hp => ?_
  obtain ⟨j, hj, rfl⟩ := List.mem_iff_getElem.1 hp
  have := h j hj
  rw [show atB W (j : Int) = W[j] by unfold atB; rw [Int.toNat_natCast, List.getD_eq_getElem?_getD, List.getElem?_eq_getElem hj]; rfl] at this
  show oneO W[j] = some (opA W[j])
  unfold opA
  cases e : oneO W[j] with
  | none => rw [e] at this; cases this
  | some o => rfl
theorem piece_len {t : ByteArray} {W : List (List UInt8)} {k : Nat} (hW : spl 59 t.data.toList = W) (h : k < W.length) : (⟨(atB W (k : Int)).toArray⟩ : ByteArray).size ≤ t.size := by
  show (ba (atB W (k : Int))).size ≤ t.size
  rw [ba_size, sz_list]
  have e : atB W (k : Int) = W[k] := by unfold atB; rw [Int.toNat_natCast, List.getD_eq_getElem?_getD, List.getElem?_eq_getElem h]; rfl
  have hm : W[k] ∈ spl 59 t.data.toList := by rw [hW]; exact List.getElem_mem _
  rw [e]
  exact spl_piece 59 hm
def sdB : Sd → Prop
  | .reg a => 0 ≤ a ∧ a < 4
  | .slot a s => (0 ≤ a ∧ a < 4) ∧ 0 ≤ s ∧ s < 4
  | .word _ => True
theorem rd_b (l : List UInt8) : sdB (rd l) := by
  match l with
  | [] => trivial
  | [b] =>
    have h4 : Lib.indexByte letters b < 4 := ix_lt b letters
    show sdB (if 0 ≤ Lib.indexByte letters b then _ else _)
    split
    · exact ⟨by assumption, h4⟩
    · trivial
  | [b, d] => trivial
  | [b, d, c] =>
    have h4 : Lib.indexByte letters b < 4 := ix_lt b letters
    rw [rd3]
    split
    · rename_i h; exact ⟨⟨h.1, h4⟩, by omega, by omega⟩
    · trivial
  | _ :: _ :: _ :: _ :: _ => trivial
theorem kind_b (w : List UInt8) : 0 ≤ kindOf w ∧ kindOf w ≤ 5 := by
  unfold kindOf
  split
  · decide
  · split <;> decide
theorem opA_I (l : List UInt8) : OpI (opA l) := by
  unfold opA oneO
  have h1 := rd_b (cutE l).1
  have h2 := rd_b (cutE l).2
  generalize rd (cutE l).1 = x at h1 ⊢
  generalize rd (cutE l).2 = y at h2 ⊢
  have z : OpI opD := by unfold OpI I64 opD; decide
  cases x <;> cases y <;> first
    | exact z
    | (unfold sdB at h1 h2
       rename_i w
       have h3 := kind_b w
       show OpI ⟨_, _, _, _⟩
       unfold OpI I64
       dsimp only
       omega)
    | (unfold sdB at h1 h2
       show OpI ⟨_, _, _, _⟩
       unfold OpI I64
       dsimp only
       omega)
theorem sum_ge : ∀ {ps : List (List UInt8)}, (∀ p ∈ ps, 1 ≤ p.length) → ps.length ≤ (ps.map List.length).sum
  | [], _ => by simp
  | p :: r, h => by
    have h1 := h p (by simp)
    have h2 := sum_ge (ps := r) fun q hq => h q (by simp [hq])
    rw [List.map_cons, List.sum_cons, List.length_cons]; omega
theorem one_nil : oneO [] = none := by decide +kernel
theorem few {t : ByteArray} {W : List (List UInt8)} (hW : spl 59 t.data.toList = W) (h : ∀ j : Nat, j < W.length → (oneO (atB W (j : Int))).isSome = true) : W.length ≤ t.size := by
  have h1 := jn_len 59 W
  have h2 : jn 59 W = t.data.toList := by rw [← hW]; exact jn_spl 59 _
  have h3 := sum_ge (ps := W) fun p hp => by
    obtain ⟨j, hj, rfl⟩ := List.mem_iff_getElem.1 hp
    have := h j hj
    rw [show atB W (j : Int) = W[j] by unfold atB; rw [Int.toNat_natCast, List.getD_eq_getElem?_getD, List.getElem?_eq_getElem hj]; rfl] at this
    cases e : W[j] with
    | nil => rw [e, one_nil] at this; cases this
    | cons b l => simp
  rw [sz_list, ← h2, h1]; omega
def ownO (W : List (List UInt8)) : Nat → Own
  | 0 => [(72, .lst 1 (ss W) 1), (67, .cells [.t (.int .i64 0)]), (66, .cells [.t .nils])]
  | k + 1 => [(1001, .lst 4 (os (firstOps W (k + 1))) 0), (72, .lst 1 (ss W) 1), (67, .cells [.t (.int .i64 0)]), (66, .cells [.sl 1001 0 none])]
theorem ownO_succ (W : List (List UInt8)) (k : Nat) : ownO W (k + 1) = [(1001, .lst 4 (os (firstOps W (k + 1))) 0), (72, .lst 1 (ss W) 1), (67, .cells [.t (.int .i64 0)]), (66, .cells [.sl 1001 0 none])] := rfl
theorem ops_run (t : ByteArray) (ht : t.size ≤ 1048576) : FnOk Tryd.prog tgl 48 [.str t] (opsT t) := by
  refine fnD_ok env_K12 Tryd.func48 rfl (by decide) (mA := mA48) (mR := mR48) (g := 74) (t1 := 6) (ts := [2, 3]) (rs := m48.res) (clo := clo74) (by kernel_rfl) ⟨_, _, _, _, _, rfl, rfl, rfl, rfl, rfl, rfl, rfl, rfl, rfl, rfl⟩ (by kernel_rfl) (by kernel_rfl) def74 ?_
  have hsz := sz_list t
  have hlen := spl_len 59 t.data.toList
  have hcnt : t.data.toList.count 59 ≤ t.data.toList.length := List.count_le_length
  have es : sep1 ⟨#[59]⟩ = 59 := rfl
  have q0 : t.size ≤ 1048576 ∧ (⟨#[59]⟩ : ByteArray) = ⟨#[sep1 ⟨#[59]⟩]⟩ := ⟨ht, rfl⟩
  generalize hW : spl 59 t.data.toList = W at hlen
  have hW' : spl (sep1 ⟨#[59]⟩) t.data.toList = W := hW
  conv => whnf
  repeat' (first
    | (refine brK_true rfl ?_; conv => whnf)
    | (refine brK_false rfl ?_; conv => whnf)
    | (refine brK_true (by assumption) ?_; conv => whnf)
    | (refine brK_false (by assumption) ?_; conv => whnf)
    | (refine brK_true ?_ ?_; (focus (simp only [List.length_nil, fx, ss_len, hW'] <;> omega)); conv => whnf)
    | (refine brK_false ?_ ?_; (focus (simp only [List.length_nil, fx, ss_len, hW'] <;> omega)); conv => whnf)
    | ((refine brK_of (fun h => ?_) (fun h => ?_)) <;> (have h2 := h; (try simp only [List.length_nil, fx, ss_len, hW'] at h2); conv => whnf))
    | (refine reqK_of ?_ ?_; (focus (first | decide | omega | assumption | (simp only [List.length_nil, fx, ss_len, hW'] <;> omega) | (simp [keyNew, sameKey, kEq] <;> omega))); conv => whnf)
    | (refine reqK_of ?_ ?_; rotate_left; (conv => whnf); rotate_left)
    | (refine nth_us ?_ ?_ ?_; (focus (first | omega | (simp only [List.length_nil, fx, ss_len, hW'] <;> omega))); (focus (first | omega | (simp only [List.length_nil, fx, ss_len, hW'] <;> omega))); conv => whnf)
    | (refine nth_is ?_ ?_ ?_; (focus (first | omega | (simp only [List.length_nil, fx, ss_len, hW'] <;> omega))); (focus (first | omega | (simp only [List.length_nil, fx, ss_len, hW'] <;> omega))); conv => whnf)
    | (refine nth_bs ?_ ?_ ?_; (focus (first | omega | (simp only [List.length_nil, fx, ss_len, hW'] <;> omega))); (focus (first | omega | (simp only [List.length_nil, fx, ss_len, hW'] <;> omega))); conv => whnf))
  refine loopFn [] (fun s => [.kill 5, .kill 11, .kill 12, .kill 13, .kill 14, .kill 15, .kill 16, .kill 17, .kill 18, .kill 19, .keep [82, 72, 67, 66], .ren 82 1001]) (fun k : Nat => [(10, .t (.int .i64 (k : Int)))]) (fun k => ownO W k) (fun k => k ≤ W.length ∧ ∀ j : Nat, j < k → (oneO (atB W j)).isSome = true) (fun k => W.length - k) 0 ⟨Nat.zero_le _, fun j h => by omega⟩ ?_
  conv => whnf
  refine ⟨⟨rfl, by rw [hW']; rfl⟩, fun k hk C hC => ?_⟩
  obtain ⟨hk1, hk2⟩ := hk
  have hw : IntKind.i64.wrap ((k : Int) + 1) = (k : Int) + 1 := wrap_i64 ⟨by omega, by omega⟩
  have none_of : ∀ {k : Nat}, k < W.length → (oneO (atB W (k : Int))).isSome = false → opsO t.data.toList = none := fun {k} h1 h2 => by
    unfold opsO
    rw [hW, all_none (i := k)]
    rw [List.getElem?_map, List.getElem?_eq_getElem h1]
    rw [show atB W (k : Int) = W[k] by unfold atB; rw [Int.toNat_natCast, List.getD_eq_getElem?_getD, List.getElem?_eq_getElem h1]; rfl] at h2
    cases e : oneO W[k] with
    | none => show some (oneO W[k]) = some none; rw [e]
    | some o => rw [e] at h2; cases h2
  cases k with
  | zero =>
    conv => whnf
    repeat' (first
      | (refine brK_true rfl ?_; conv => whnf)
      | (refine brK_false rfl ?_; conv => whnf)
      | (refine brK_true (by assumption) ?_; conv => whnf)
      | (refine brK_false (by assumption) ?_; conv => whnf)
      | (refine brK_true ?_ ?_; (focus (simp only [List.length_nil, fx, ss_len, hW'] <;> omega)); conv => whnf)
      | (refine brK_false ?_ ?_; (focus (simp only [List.length_nil, fx, ss_len, hW'] <;> omega)); conv => whnf)
      | ((refine brK_of (fun h => ?_) (fun h => ?_)) <;> (have h2 := h; (try simp only [List.length_nil, fx, ss_len, hW'] at h2); conv => whnf))
      | (refine reqK_of ?_ ?_; (focus (first | decide | omega | assumption | (simp only [List.length_nil, fx, ss_len, hW'] <;> omega) | (simp [keyNew, sameKey, kEq] <;> omega))); conv => whnf)
      | (refine reqK_of ?_ ?_; rotate_left; (conv => whnf); rotate_left)
      | (refine nth_ss ?_ ?_ ?_; (focus (first | omega | (simp only [List.length_nil, fx, ss_len, hW'] <;> omega))); (focus (first | omega | (simp only [List.length_nil, fx, ss_len, hW'] <;> omega))); conv => whnf)
      | (refine nth_us ?_ ?_ ?_; (focus (first | omega | (simp only [List.length_nil, fx, ss_len, hW'] <;> omega))); (focus (first | omega | (simp only [List.length_nil, fx, ss_len, hW'] <;> omega))); conv => whnf)
      | (refine nth_is ?_ ?_ ?_; (focus (first | omega | (simp only [List.length_nil, fx, ss_len, hW'] <;> omega))); (focus (first | omega | (simp only [List.length_nil, fx, ss_len, hW'] <;> omega))); conv => whnf)
      | (refine nth_bs ?_ ?_ ?_; (focus (first | omega | (simp only [List.length_nil, fx, ss_len, hW'] <;> omega))); (focus (first | omega | (simp only [List.length_nil, fx, ss_len, hW'] <;> omega))); conv => whnf))
    · have := piece_len (k := 0) hW (by omega); omega
    · unfold maxBytes; simp only [List.length_cons, List.length_nil]; omega
    · refine loopC (hC (0 + 1) ⟨by omega, fun j hj => ?_⟩ (by omega)) ?_
      · rcases Nat.lt_succ_iff_lt_or_eq.1 hj with h | h
        · exact hk2 j h
        · subst h; assumption
      · have e := first_snoc (W := W) (k := 0) (by omega)
        rw [ownO_succ, ← e, hw, hW']
        rfl
    · rw [ops_no (none_of (k := 0) (by omega) (by assumption))]
      exact tup_nil4
  | succ k =>
    conv => whnf
    repeat' (first
      | (refine brK_true rfl ?_; conv => whnf)
      | (refine brK_false rfl ?_; conv => whnf)
      | (refine brK_true (by assumption) ?_; conv => whnf)
      | (refine brK_false (by assumption) ?_; conv => whnf)
      | (refine brK_true ?_ ?_; (focus (simp only [List.length_nil, fx, ss_len, hW'] <;> omega)); conv => whnf)
      | (refine brK_false ?_ ?_; (focus (simp only [List.length_nil, fx, ss_len, hW'] <;> omega)); conv => whnf)
      | ((refine brK_of (fun h => ?_) (fun h => ?_)) <;> (have h2 := h; (try simp only [List.length_nil, fx, ss_len, hW'] at h2); conv => whnf))
      | (refine reqK_of ?_ ?_; (focus (first | decide | omega | assumption | (simp only [List.length_nil, fx, ss_len, hW'] <;> omega) | (simp [keyNew, sameKey, kEq] <;> omega))); conv => whnf)
      | (refine reqK_of ?_ ?_; rotate_left; (conv => whnf); rotate_left)
      | (refine nth_ss ?_ ?_ ?_; (focus (first | omega | (simp only [List.length_nil, fx, ss_len, hW'] <;> omega))); (focus (first | omega | (simp only [List.length_nil, fx, ss_len, hW'] <;> omega))); conv => whnf)
      | (refine nth_us ?_ ?_ ?_; (focus (first | omega | (simp only [List.length_nil, fx, ss_len, hW'] <;> omega))); (focus (first | omega | (simp only [List.length_nil, fx, ss_len, hW'] <;> omega))); conv => whnf)
      | (refine nth_is ?_ ?_ ?_; (focus (first | omega | (simp only [List.length_nil, fx, ss_len, hW'] <;> omega))); (focus (first | omega | (simp only [List.length_nil, fx, ss_len, hW'] <;> omega))); conv => whnf)
      | (refine nth_bs ?_ ?_ ?_; (focus (first | omega | (simp only [List.length_nil, fx, ss_len, hW'] <;> omega))); (focus (first | omega | (simp only [List.length_nil, fx, ss_len, hW'] <;> omega))); conv => whnf))
    · have := piece_len (k := (k + 1)) hW (by omega); omega
    · rw [os_len, first_len]; unfold maxBytes; simp only [List.length_cons, List.length_nil]; omega
    · refine loopC (hC ((k + 1) + 1) ⟨by omega, fun j hj => ?_⟩ (by omega)) ?_
      · rcases Nat.lt_succ_iff_lt_or_eq.1 hj with h | h
        · exact hk2 j h
        · subst h; assumption
      · have e := first_snoc (W := W) (k := (k + 1)) (by omega)
        rw [ownO_succ, ← e, hw, hW']
        rfl
    · rw [ops_no (none_of (k := (k + 1)) (by omega) (by assumption))]
      exact tup_nil4
    · have hk3 : k + 1 = W.length := by omega
      rw [subL_00]
      refine ⟨_, rfl, ?_, fun o ho => ?_⟩
      · rw [first_len]
        have := few hW (by rw [← hk3]; exact hk2)
        omega
      · unfold firstOps at ho
        obtain ⟨p, _, rfl⟩ := List.mem_map.1 ho
        exact opA_I p
    all_goals
      have hk3 : k + 1 = W.length := by omega
      have hall := all_first (W := W) (by rw [← hk3]; exact hk2)
    · have hne : cP (firstOps W W.length) ≠ t.data.toList := fun e => by
        have h9 : eqS (cPrint (opsOf (subL (os (firstOps W (k + 1))) 0 none))) t = false := by assumption
        rw [subL_00, opsOf_os, hk3] at h9
        have : cPrint (firstOps W W.length) = t := by unfold cPrint; rw [e]
        rw [eqS_iff.2 this] at h9; cases h9
      rw [ops_no (by unfold opsO; rw [hW, hall]; exact if_neg hne)]
      exact tup_nil4
    · have h9 : eqS (cPrint (opsOf (subL (os (firstOps W (k + 1))) 0 none))) t = true := by assumption
      rw [subL_00, opsOf_os, hk3] at h9
      have he : cP (firstOps W W.length) = t.data.toList := by rw [← eqS_iff.1 h9]; exact (by simp [cPrint])
      rw [ops_yes (l := firstOps W W.length) (by unfold opsO; rw [hW, hall]; exact if_pos he), subL_00, hk3]
      exact fun _ _ _ h => h
end Go.Nx
end
section
set_option linter.unusedVariables false
set_option linter.unusedSimpArgs false
set_option maxRecDepth 20000
set_option maxHeartbeats 4000000
namespace Go.Nx
open Go Go.RowKit Go.Proofs

theorem enter_lowK {P : Program} {f : FuncId} {fn : Func} {m : MFn} (hf : P.funcs[f]? = some fn) (hl : lowFn P fn = some m) : Enter P f := by
  unfold lowFn at hl
  split at hl
  · rename_i c hb
    split at hl
    · split at hl
      · cases hl
      · rename_i hname; exact ⟨fn, hf, by simp [hb], hname⟩
    · cases hl
  · cases hl
theorem fn_okK {P : Program} {Γ : Env} (hΓ : EnvOk P Γ) {f : FuncId} {fn : Func} {m : MFn} {vs : List T} {x : T} (hf : P.funcs[f]? = some fn) (hl : lowFn P fn = some m) (h : fnK Γ m vs (fun y => ∀ S w v, RelT S w y v → RelT S w x v)) : FnOk P Γ.gl f vs x := by
  obtain ⟨hnp, h⟩ := lenK_elim h
  have h3 := initK_elim (tagK_elim h)
  have main := fun (S : Cells) (w : World) (args : Array Value) (hlt : ∀ b o, S b o → b < w.heap.size) (hgl : GlOk Γ.gl S w) (hsz : args.size = vs.length) (hrel : ∀ (i : Nat) (c : T) (u : Value), vs[i]? = some c → args[i]? = some u → RelT S w c u) =>
    body_run (ρ := fun _ => ⟨0, .nilFunc⟩) (vals := args) (K := fun l st => run false (toTP 8 (oneV l) fun x => .ret (.t x)) st.own [] fun v _ _ => match v with
      | .t y => ∀ S w v, RelT S w y v → RelT S w x v
      | _ => False) hΓ hf hl (mem_nil hlt hgl _) (fun k b hk => by simp [look] at hk) (by simpa using hsz) (by simpa using hnp) (rel_ts hrel) h3
  refine ⟨enter_lowK hf hl, fun S w args hlt hgl hsz hrel => ?_⟩
  refine Calls.mono (main S w args hlt hgl hsz hrel).2 fun e w' he => ?_
  obtain ⟨u, l, st', S', ρ', a', rfl, hK, hr, hv⟩ := he
  obtain ⟨tm', own'⟩ := st'
  obtain ⟨y, own2, S2, log2, g1, g2, g3⟩ := toT_ok 8 _ _ _ _ _ _ _ _ _ _ _ _ _ _ hr hv hK
  have g1 : ∀ S w v, RelT S w y v → RelT S w x v := g1
  have g4 : RelT (fresh S w _) _ y u := g3.mono (fun b o hb => sup_nil g2.rel hb) (fun _ _ _ => rfl)
  exact ⟨u, rfl, g1 _ _ _ g4, below_of hr⟩
theorem ok48 (t : ByteArray) (hq : t.size ≤ 1048576) : FnOk Tryd.prog tgl 48 [.str t] (opsT t) := by
  exact ops_run t hq
open Classical in
noncomputable def c48 : List T → Ans
  | [.str t] => .req (t.size ≤ 1048576) (opsT t)
  | _ => .no
theorem got48 {vs : List T} {x : T} (h : Got (c48 vs) x) : FnOk Tryd.prog tgl 48 vs x := by
  unfold c48 at h
  split at h
  · obtain ⟨hq, e⟩ := got_req h; rw [e]; exact ok48 _ hq
  · exact (got_no h).elim
theorem nogl48 (vs : List T) (p : Prop) (d : Decidable p) (sz : Nat) (xs : List T) (h : c48 vs = @Ans.gl p d sz xs) : False := by
  unfold c48 at h
  split at h <;> cases h
theorem pk48 (vs : List T) (p : Prop) (d : Decidable p) (x : T) (h : c48 vs = @Ans.pk p d x) (hp : p) : FnOk Tryd.prog tgl 48 vs x := by
  unfold c48 at h
  split at h
  · cases h
  · cases h
noncomputable def lK13 : List (Nat × (List T → Ans)) := (48, c48) :: lK8
noncomputable def iK13 : List (Nat × Pt) := iK8
noncomputable abbrev K13 : Env := En tgl lK13 iK13
theorem env_K13 : EnvOk Tryd.prog K13 := (env_fn env_K8 (fun _ _ => got48) (fun vs p d sz xs h _ => (nogl48 vs p d sz xs h).elim) pk48)
def parT (l : List UInt8) : T := .tup [.list 4 (os (cParse l).1), .int .i64 (cParse l).2]
def sameR (x y : T) : Prop := ∀ (S : Cells) (w : World) (v : Value), RelT S w y v → RelT S w x v
theorem sameR_refl (x : T) : sameR x x := fun _ _ _ h => h
theorem par_dash : cParse [45] = ([], 0) := if_pos rfl
theorem par_yes {l : List UInt8} {ops : List COp} (h0 : l ≠ [45]) (h : opsO l = some ops) (h2 : ops.length ≤ 64) : cParse l = (ops, 0) := by unfold cParse; rw [if_neg h0, h]; exact if_pos h2
theorem par_lim {l : List UInt8} {ops : List COp} (h0 : l ≠ [45]) (h : opsO l = some ops) (h2 : ¬ ops.length ≤ 64) : cParse l = ([], 3) := by unfold cParse; rw [if_neg h0, h]; exact if_neg h2
theorem par_no {l : List UInt8} (h0 : l ≠ [45]) (h : opsO l = none) : cParse l = ([], 2) := by unfold cParse; rw [if_neg h0, h]
theorem dash_iff {s : ByteArray} : eqS s (⟨#[45]⟩ : ByteArray) = decide (s.data.toList = [45]) := by
  rw [← ba_self s]
  exact eqS_ba _ _
theorem ok16 (s : ByteArray) (hq : s.size ≤ 1048576) : FnOk Tryd.prog tgl 16 [.str s] (parT s.data.toList) := by
  refine fn_okK env_K13 Tryd.func16 low16 ?_
  by_cases hd : s.data.toList = [45]
  · have he : eqS s (⟨#[45]⟩ : ByteArray) = true := by rw [dash_iff]; exact decide_eq_true hd
    have ep : parT s.data.toList = .tup [.list 4 (os []), .int .i64 0] := by unfold parT; rw [hd, par_dash]
    conv => whnf
    repeat' (first
      | (refine brK_true rfl ?_; conv => whnf)
      | (refine brK_false rfl ?_; conv => whnf)
      | (refine brK_true (by assumption) ?_; conv => whnf)
      | (refine brK_false (by assumption) ?_; conv => whnf)
      | (refine brK_true ?_ ?_; (focus (simp only [List.length_nil, fx] <;> omega)); conv => whnf)
      | (refine brK_false ?_ ?_; (focus (simp only [List.length_nil, fx] <;> omega)); conv => whnf)
      | ((refine brK_of (fun h => ?_) (fun h => ?_)) <;> (have h2 := h; (try simp only [List.length_nil, fx] at h2); conv => whnf))
      | (refine reqK_of ?_ ?_; (focus (first | decide | omega | assumption | (simp only [List.length_nil, fx] <;> omega) | (simp [keyNew, sameKey, kEq] <;> omega))); conv => whnf)
      | (refine reqK_of ?_ ?_; rotate_left; (conv => whnf); rotate_left)
      | (refine nth_us ?_ ?_ ?_; (focus (first | omega | (simp only [List.length_nil, fx] <;> omega))); (focus (first | omega | (simp only [List.length_nil, fx] <;> omega))); conv => whnf)
      | (refine nth_is ?_ ?_ ?_; (focus (first | omega | (simp only [List.length_nil, fx] <;> omega))); (focus (first | omega | (simp only [List.length_nil, fx] <;> omega))); conv => whnf)
      | (refine nth_bs ?_ ?_ ?_; (focus (first | omega | (simp only [List.length_nil, fx] <;> omega))); (focus (first | omega | (simp only [List.length_nil, fx] <;> omega))); conv => whnf))
    rw [ep]
    exact tup_nil4
  · have he : eqS s (⟨#[45]⟩ : ByteArray) = false := by rw [dash_iff]; exact decide_eq_false hd
    cases ho : opsO s.data.toList with
    | none =>
      have eo := ops_no ho
      have ep : parT s.data.toList = .tup [.list 4 (os []), .int .i64 2] := by unfold parT; rw [par_no hd ho]
      conv => whnf
      repeat' (first
        | (refine brK_true rfl ?_; conv => whnf)
        | (refine brK_false rfl ?_; conv => whnf)
        | (refine brK_true (by assumption) ?_; conv => whnf)
        | (refine brK_false (by assumption) ?_; conv => whnf)
        | (refine brK_true ?_ ?_; (focus (simp only [List.length_nil, fx] <;> omega)); conv => whnf)
        | (refine brK_false ?_ ?_; (focus (simp only [List.length_nil, fx] <;> omega)); conv => whnf)
        | ((refine brK_of (fun h => ?_) (fun h => ?_)) <;> (have h2 := h; (try simp only [List.length_nil, fx] at h2); conv => whnf))
        | (refine reqK_of ?_ ?_; (focus (first | decide | omega | assumption | (simp only [List.length_nil, fx] <;> omega) | (simp [keyNew, sameKey, kEq] <;> omega))); conv => whnf)
        | (refine reqK_of ?_ ?_; rotate_left; (conv => whnf); rotate_left)
        | (refine nth_us ?_ ?_ ?_; (focus (first | omega | (simp only [List.length_nil, fx] <;> omega))); (focus (first | omega | (simp only [List.length_nil, fx] <;> omega))); conv => whnf)
        | (refine nth_is ?_ ?_ ?_; (focus (first | omega | (simp only [List.length_nil, fx] <;> omega))); (focus (first | omega | (simp only [List.length_nil, fx] <;> omega))); conv => whnf)
        | (refine nth_bs ?_ ?_ ?_; (focus (first | omega | (simp only [List.length_nil, fx] <;> omega))); (focus (first | omega | (simp only [List.length_nil, fx] <;> omega))); conv => whnf))
      rw [eo]
      conv => whnf
      repeat' (first
        | (refine brK_true rfl ?_; conv => whnf)
        | (refine brK_false rfl ?_; conv => whnf)
        | (refine brK_true (by assumption) ?_; conv => whnf)
        | (refine brK_false (by assumption) ?_; conv => whnf)
        | (refine brK_true ?_ ?_; (focus (simp only [List.length_nil, fx] <;> omega)); conv => whnf)
        | (refine brK_false ?_ ?_; (focus (simp only [List.length_nil, fx] <;> omega)); conv => whnf)
        | ((refine brK_of (fun h => ?_) (fun h => ?_)) <;> (have h2 := h; (try simp only [List.length_nil, fx] at h2); conv => whnf))
        | (refine reqK_of ?_ ?_; (focus (first | decide | omega | assumption | (simp only [List.length_nil, fx] <;> omega) | (simp [keyNew, sameKey, kEq] <;> omega))); conv => whnf)
        | (refine reqK_of ?_ ?_; rotate_left; (conv => whnf); rotate_left)
        | (refine nth_us ?_ ?_ ?_; (focus (first | omega | (simp only [List.length_nil, fx] <;> omega))); (focus (first | omega | (simp only [List.length_nil, fx] <;> omega))); conv => whnf)
        | (refine nth_is ?_ ?_ ?_; (focus (first | omega | (simp only [List.length_nil, fx] <;> omega))); (focus (first | omega | (simp only [List.length_nil, fx] <;> omega))); conv => whnf)
        | (refine nth_bs ?_ ?_ ?_; (focus (first | omega | (simp only [List.length_nil, fx] <;> omega))); (focus (first | omega | (simp only [List.length_nil, fx] <;> omega))); conv => whnf))
      all_goals (rw [ep]; first | exact sameR_refl _ | exact tup_nil4)
    | some l =>
      have eo := ops_yes ho
      by_cases hl : l.length ≤ 64
      · have ep : parT s.data.toList = .tup [.list 4 (os l), .int .i64 0] := by unfold parT; rw [par_yes hd ho hl]
        conv => whnf
        repeat' (first
          | (refine brK_true rfl ?_; conv => whnf)
          | (refine brK_false rfl ?_; conv => whnf)
          | (refine brK_true (by assumption) ?_; conv => whnf)
          | (refine brK_false (by assumption) ?_; conv => whnf)
          | (refine brK_true ?_ ?_; (focus (simp only [List.length_nil, fx] <;> omega)); conv => whnf)
          | (refine brK_false ?_ ?_; (focus (simp only [List.length_nil, fx] <;> omega)); conv => whnf)
          | ((refine brK_of (fun h => ?_) (fun h => ?_)) <;> (have h2 := h; (try simp only [List.length_nil, fx] at h2); conv => whnf))
          | (refine reqK_of ?_ ?_; (focus (first | decide | omega | assumption | (simp only [List.length_nil, fx] <;> omega) | (simp [keyNew, sameKey, kEq] <;> omega))); conv => whnf)
          | (refine reqK_of ?_ ?_; rotate_left; (conv => whnf); rotate_left)
          | (refine nth_us ?_ ?_ ?_; (focus (first | omega | (simp only [List.length_nil, fx] <;> omega))); (focus (first | omega | (simp only [List.length_nil, fx] <;> omega))); conv => whnf)
          | (refine nth_is ?_ ?_ ?_; (focus (first | omega | (simp only [List.length_nil, fx] <;> omega))); (focus (first | omega | (simp only [List.length_nil, fx] <;> omega))); conv => whnf)
          | (refine nth_bs ?_ ?_ ?_; (focus (first | omega | (simp only [List.length_nil, fx] <;> omega))); (focus (first | omega | (simp only [List.length_nil, fx] <;> omega))); conv => whnf))
        rw [eo]
        conv => whnf
        repeat' (first
          | (refine brK_true rfl ?_; conv => whnf)
          | (refine brK_false rfl ?_; conv => whnf)
          | (refine brK_true (by assumption) ?_; conv => whnf)
          | (refine brK_false (by assumption) ?_; conv => whnf)
          | (refine brK_true ?_ ?_; (focus (simp only [List.length_nil, fx, os_len] <;> omega)); conv => whnf)
          | (refine brK_false ?_ ?_; (focus (simp only [List.length_nil, fx, os_len] <;> omega)); conv => whnf)
          | ((refine brK_of (fun h => ?_) (fun h => ?_)) <;> (have h2 := h; (try simp only [List.length_nil, fx, os_len] at h2); conv => whnf))
          | (refine reqK_of ?_ ?_; (focus (first | decide | omega | assumption | (simp only [List.length_nil, fx, os_len] <;> omega) | (simp [keyNew, sameKey, kEq] <;> omega))); conv => whnf)
          | (refine reqK_of ?_ ?_; rotate_left; (conv => whnf); rotate_left)
          | (refine nth_us ?_ ?_ ?_; (focus (first | omega | (simp only [List.length_nil, fx, os_len] <;> omega))); (focus (first | omega | (simp only [List.length_nil, fx, os_len] <;> omega))); conv => whnf)
          | (refine nth_is ?_ ?_ ?_; (focus (first | omega | (simp only [List.length_nil, fx, os_len] <;> omega))); (focus (first | omega | (simp only [List.length_nil, fx, os_len] <;> omega))); conv => whnf)
          | (refine nth_bs ?_ ?_ ?_; (focus (first | omega | (simp only [List.length_nil, fx, os_len] <;> omega))); (focus (first | omega | (simp only [List.length_nil, fx, os_len] <;> omega))); conv => whnf))
        all_goals (rw [ep]; first | exact sameR_refl _ | exact tup_nil4)
      · have ep : parT s.data.toList = .tup [.list 4 (os []), .int .i64 3] := by unfold parT; rw [par_lim hd ho hl]
        conv => whnf
        repeat' (first
          | (refine brK_true rfl ?_; conv => whnf)
          | (refine brK_false rfl ?_; conv => whnf)
          | (refine brK_true (by assumption) ?_; conv => whnf)
          | (refine brK_false (by assumption) ?_; conv => whnf)
          | (refine brK_true ?_ ?_; (focus (simp only [List.length_nil, fx] <;> omega)); conv => whnf)
          | (refine brK_false ?_ ?_; (focus (simp only [List.length_nil, fx] <;> omega)); conv => whnf)
          | ((refine brK_of (fun h => ?_) (fun h => ?_)) <;> (have h2 := h; (try simp only [List.length_nil, fx] at h2); conv => whnf))
          | (refine reqK_of ?_ ?_; (focus (first | decide | omega | assumption | (simp only [List.length_nil, fx] <;> omega) | (simp [keyNew, sameKey, kEq] <;> omega))); conv => whnf)
          | (refine reqK_of ?_ ?_; rotate_left; (conv => whnf); rotate_left)
          | (refine nth_us ?_ ?_ ?_; (focus (first | omega | (simp only [List.length_nil, fx] <;> omega))); (focus (first | omega | (simp only [List.length_nil, fx] <;> omega))); conv => whnf)
          | (refine nth_is ?_ ?_ ?_; (focus (first | omega | (simp only [List.length_nil, fx] <;> omega))); (focus (first | omega | (simp only [List.length_nil, fx] <;> omega))); conv => whnf)
          | (refine nth_bs ?_ ?_ ?_; (focus (first | omega | (simp only [List.length_nil, fx] <;> omega))); (focus (first | omega | (simp only [List.length_nil, fx] <;> omega))); conv => whnf))
        rw [eo]
        conv => whnf
        repeat' (first
          | (refine brK_true rfl ?_; conv => whnf)
          | (refine brK_false rfl ?_; conv => whnf)
          | (refine brK_true (by assumption) ?_; conv => whnf)
          | (refine brK_false (by assumption) ?_; conv => whnf)
          | (refine brK_true ?_ ?_; (focus (simp only [List.length_nil, fx, os_len] <;> omega)); conv => whnf)
          | (refine brK_false ?_ ?_; (focus (simp only [List.length_nil, fx, os_len] <;> omega)); conv => whnf)
          | ((refine brK_of (fun h => ?_) (fun h => ?_)) <;> (have h2 := h; (try simp only [List.length_nil, fx, os_len] at h2); conv => whnf))
          | (refine reqK_of ?_ ?_; (focus (first | decide | omega | assumption | (simp only [List.length_nil, fx, os_len] <;> omega) | (simp [keyNew, sameKey, kEq] <;> omega))); conv => whnf)
          | (refine reqK_of ?_ ?_; rotate_left; (conv => whnf); rotate_left)
          | (refine nth_us ?_ ?_ ?_; (focus (first | omega | (simp only [List.length_nil, fx, os_len] <;> omega))); (focus (first | omega | (simp only [List.length_nil, fx, os_len] <;> omega))); conv => whnf)
          | (refine nth_is ?_ ?_ ?_; (focus (first | omega | (simp only [List.length_nil, fx, os_len] <;> omega))); (focus (first | omega | (simp only [List.length_nil, fx, os_len] <;> omega))); conv => whnf)
          | (refine nth_bs ?_ ?_ ?_; (focus (first | omega | (simp only [List.length_nil, fx, os_len] <;> omega))); (focus (first | omega | (simp only [List.length_nil, fx, os_len] <;> omega))); conv => whnf))
        all_goals (rw [ep]; first | exact sameR_refl _ | exact tup_nil4)
open Classical in
noncomputable def c16 : List T → Ans
  | [.str s] => .req (s.size ≤ 1048576) (parT s.data.toList)
  | _ => .no
theorem got16 {vs : List T} {x : T} (h : Got (c16 vs) x) : FnOk Tryd.prog tgl 16 vs x := by
  unfold c16 at h
  split at h
  · obtain ⟨hq, e⟩ := got_req h; rw [e]; exact ok16 _ hq
  · exact (got_no h).elim
theorem nogl16 (vs : List T) (p : Prop) (d : Decidable p) (sz : Nat) (xs : List T) (h : c16 vs = @Ans.gl p d sz xs) : False := by
  unfold c16 at h
  split at h <;> cases h
theorem pk16 (vs : List T) (p : Prop) (d : Decidable p) (x : T) (h : c16 vs = @Ans.pk p d x) (hp : p) : FnOk Tryd.prog tgl 16 vs x := by
  unfold c16 at h
  split at h
  · cases h
  · cases h
def dOne (l : List UInt8) : Option COp := match oneO l with
  | some o => if cT o = l then some o else none
  | none => none
theorem dOne_iff {l : List UInt8} {o : COp} : dOne l = some o ↔ cR4 o = true ∧ cT o = l := by
  unfold dOne
  constructor
  · intro h
    split at h
    · rename_i p hp
      split at h
      · rename_i ht
        cases h
        exact ⟨one_text hp ht, ht⟩
      · cases h
    · cases h
  · rintro ⟨hr, ht⟩
    have : oneO l = some o := by
      rw [← ht]; unfold cT; rw [if_pos hr]; exact right_one hr
    rw [this]
    exact if_pos ht
theorem dOne_none {l : List UInt8} (h : ∀ o, cR4 o = true → cT o ≠ l) : dOne l = none := by
  cases e : dOne l with
  | none => rfl
  | some o => obtain ⟨h1, h2⟩ := dOne_iff.1 e; exact absurd h2 (h o h1)
def dOneT (l : List UInt8) : T := .tup [opT ((dOne l).getD opD), .bool (dOne l).isSome]
theorem dOneT_yes {l : List UInt8} {o : COp} (h : dOne l = some o) : dOneT l = .tup [opT o, .bool true] := by unfold dOneT; rw [h]; rfl
theorem dOneT_no {l : List UInt8} (h : dOne l = none) : dOneT l = .tup [opT opD, .bool false] := by unfold dOneT; rw [h]; rfl
theorem txt_iff {o : COp} {s : ByteArray} : eqS (cTxt o) s = true ↔ cT o = s.data.toList := by
  rw [eqS_iff]
  constructor
  · intro h; rw [← h]; rfl
  · intro h; rw [cTxt_ba, h, ba_self]
def NoM (l : List UInt8) (A : COp → Prop) : Prop := ∀ o, cR4 o = true → A o → cT o ≠ l
noncomputable def lK14 : List (Nat × (List T → Ans)) := lK8
noncomputable def iK14 : List (Nat × Pt) := iK8
noncomputable abbrev K14 : Env := En tgl lK14 iK14
theorem env_K14 : EnvOk Tryd.prog K14 := env_K8
theorem ok50 (s : ByteArray) (hq : s.size ≤ 1048576) : FnOk Tryd.prog tgl 50 [.str s] (dOneT s.data.toList) := by
  refine fn_ok (Γ := K14) env_K14 Tryd.func50 low50 ?_
  conv => whnf
  repeat' (first
    | (refine brK_true rfl ?_; conv => whnf)
    | (refine brK_false rfl ?_; conv => whnf)
    | (refine brK_true (by assumption) ?_; conv => whnf)
    | (refine brK_false (by assumption) ?_; conv => whnf)
    | (refine brK_true ?_ ?_; (focus (simp only [List.length_nil, fx] <;> omega)); conv => whnf)
    | (refine brK_false ?_ ?_; (focus (simp only [List.length_nil, fx] <;> omega)); conv => whnf)
    | ((refine brK_of (fun h => ?_) (fun h => ?_)) <;> (have h2 := h; (try simp only [List.length_nil, fx] at h2); conv => whnf))
    | (refine reqK_of ?_ ?_; (focus (first | decide | omega | assumption | (simp only [List.length_nil, fx] <;> omega) | (simp [keyNew, sameKey, kEq] <;> omega))); conv => whnf)
    | (refine reqK_of ?_ ?_; rotate_left; (conv => whnf); rotate_left)
    | (refine nth_us ?_ ?_ ?_; (focus (first | omega | (simp only [List.length_nil, fx] <;> omega))); (focus (first | omega | (simp only [List.length_nil, fx] <;> omega))); conv => whnf)
    | (refine nth_is ?_ ?_ ?_; (focus (first | omega | (simp only [List.length_nil, fx] <;> omega))); (focus (first | omega | (simp only [List.length_nil, fx] <;> omega))); conv => whnf)
    | (refine nth_bs ?_ ?_ ?_; (focus (first | omega | (simp only [List.length_nil, fx] <;> omega))); (focus (first | omega | (simp only [List.length_nil, fx] <;> omega))); conv => whnf))
  refine loopFn [] (fun s => [.kill 5, .kill 6, .kill 7, .kill 8, .kill 9, .kill 10, .kill 11, .kill 12, .kill 13, .kill 14, .kill 15, .kill 16, .kill 17, .kill 18, .kill 19, .kill 20, .kill 21, .kill 22, .kill 23, .kill 24, .kill 25, .kill 26, .kill 27, .kill 28, .kill 29, .kill 30, .kill 31, .kill 32, .kill 33, .kill 34, .kill 35, .kill 36, .kill 37, .kill 38, .keep [66]]) (fun k : Nat => [(4, .t (.int .i64 (k : Int)))]) (fun _ => [(66, .cells [.t (.int .i64 0), .t (.int .i64 0), .t (.int .i64 0), .t (.int .i64 0)])]) (fun k => 1 ≤ k ∧ k ≤ 6 ∧ NoM s.data.toList fun o => o.k < k) (fun k => 6 - k) 1 ⟨by omega, by omega, fun o ho hk => ?_⟩ ?_
  · have := (cOk_range (cR4_iff.1 ho)).2.2.2; omega
  conv => whnf
  refine ⟨⟨rfl, rfl⟩, fun k hk C hC => ?_⟩
  obtain ⟨hk0, hk1, hk2⟩ := hk
  have hwk : IntKind.i64.wrap ((k : Int) + 1) = (k : Int) + 1 := wrap_i64 ⟨by omega, by omega⟩
  conv => whnf
  repeat' (first
    | (refine brK_true rfl ?_; conv => whnf)
    | (refine brK_false rfl ?_; conv => whnf)
    | (refine brK_true (by assumption) ?_; conv => whnf)
    | (refine brK_false (by assumption) ?_; conv => whnf)
    | (refine brK_true ?_ ?_; (focus (simp only [List.length_nil, fx] <;> omega)); conv => whnf)
    | (refine brK_false ?_ ?_; (focus (simp only [List.length_nil, fx] <;> omega)); conv => whnf)
    | ((refine brK_of (fun h => ?_) (fun h => ?_)) <;> (have h2 := h; (try simp only [List.length_nil, fx] at h2); conv => whnf))
    | (refine reqK_of ?_ ?_; (focus (first | decide | omega | assumption | (simp only [List.length_nil, fx] <;> omega) | (simp [keyNew, sameKey, kEq] <;> omega))); conv => whnf)
    | (refine reqK_of ?_ ?_; rotate_left; (conv => whnf); rotate_left)
    | (refine nth_us ?_ ?_ ?_; (focus (first | omega | (simp only [List.length_nil, fx] <;> omega))); (focus (first | omega | (simp only [List.length_nil, fx] <;> omega))); conv => whnf)
    | (refine nth_is ?_ ?_ ?_; (focus (first | omega | (simp only [List.length_nil, fx] <;> omega))); (focus (first | omega | (simp only [List.length_nil, fx] <;> omega))); conv => whnf)
    | (refine nth_bs ?_ ?_ ?_; (focus (first | omega | (simp only [List.length_nil, fx] <;> omega))); (focus (first | omega | (simp only [List.length_nil, fx] <;> omega))); conv => whnf))
  · refine loopFn [] (fun s => [.kill 6, .kill 7, .kill 8, .kill 13, .kill 14, .kill 15, .kill 16, .kill 17, .kill 18, .kill 19, .kill 20, .kill 21, .kill 22, .kill 23, .kill 24, .kill 25, .kill 26, .kill 27, .kill 28, .kill 29, .kill 30, .kill 31, .kill 32, .kill 33, .kill 34, .kill 35, .kill 36, .kill 37, .kill 38, .keep [66]]) (fun r : Nat => [(5, .t (.int .i64 (r : Int)))]) (fun _ => [(66, .cells [.t (.int .i64 0), .t (.int .i64 0), .t (.int .i64 0), .t (.int .i64 0)])]) (fun r => r ≤ 4 ∧ NoM s.data.toList fun o => o.k = k ∧ o.r < r) (fun r => 4 - r) 0 ⟨by omega, fun o ho hr => ?_⟩ ?_
    · have := (cOk_range (cR4_iff.1 ho)).1; omega
    conv => whnf
    refine ⟨⟨rfl, rfl⟩, fun r hr C1 hC1 => ?_⟩
    obtain ⟨hr1, hr2⟩ := hr
    have hwr : IntKind.i64.wrap ((r : Int) + 1) = (r : Int) + 1 := wrap_i64 ⟨by omega, by omega⟩
    conv => whnf
    repeat' (first
      | (refine brK_true rfl ?_; conv => whnf)
      | (refine brK_false rfl ?_; conv => whnf)
      | (refine brK_true (by assumption) ?_; conv => whnf)
      | (refine brK_false (by assumption) ?_; conv => whnf)
      | (refine brK_true ?_ ?_; (focus (simp only [List.length_nil, fx] <;> omega)); conv => whnf)
      | (refine brK_false ?_ ?_; (focus (simp only [List.length_nil, fx] <;> omega)); conv => whnf)
      | ((refine brK_of (fun h => ?_) (fun h => ?_)) <;> (have h2 := h; (try simp only [List.length_nil, fx] at h2); conv => whnf))
      | (refine reqK_of ?_ ?_; (focus (first | decide | omega | assumption | (simp only [List.length_nil, fx] <;> omega) | (simp [keyNew, sameKey, kEq] <;> omega))); conv => whnf)
      | (refine reqK_of ?_ ?_; rotate_left; (conv => whnf); rotate_left)
      | (refine nth_us ?_ ?_ ?_; (focus (first | omega | (simp only [List.length_nil, fx] <;> omega))); (focus (first | omega | (simp only [List.length_nil, fx] <;> omega))); conv => whnf)
      | (refine nth_is ?_ ?_ ?_; (focus (first | omega | (simp only [List.length_nil, fx] <;> omega))); (focus (first | omega | (simp only [List.length_nil, fx] <;> omega))); conv => whnf)
      | (refine nth_bs ?_ ?_ ?_; (focus (first | omega | (simp only [List.length_nil, fx] <;> omega))); (focus (first | omega | (simp only [List.length_nil, fx] <;> omega))); conv => whnf))
    · refine loopFn [] (fun s => [.kill 7, .kill 8, .kill 17, .kill 18, .kill 19, .kill 20, .kill 21, .kill 22, .kill 23, .kill 24, .kill 25, .kill 26, .kill 27, .kill 28, .kill 29, .kill 30, .kill 31, .kill 32, .kill 33, .kill 34, .kill 35, .kill 36, .kill 37, .kill 38, .keep [66]]) (fun a : Nat => [(6, .t (.int .i64 (a : Int)))]) (fun _ => [(66, .cells [.t (.int .i64 0), .t (.int .i64 0), .t (.int .i64 0), .t (.int .i64 0)])]) (fun a => a ≤ 4 ∧ NoM s.data.toList fun o => (o.k = k ∧ o.r = r) ∧ o.a < a) (fun a => 4 - a) 0 ⟨by omega, fun o ho hr => ?_⟩ ?_
      · have := (cOk_range (cR4_iff.1 ho)).2.1; omega
      conv => whnf
      refine ⟨⟨rfl, rfl⟩, fun a ha C2 hC2 => ?_⟩
      obtain ⟨ha1, ha2⟩ := ha
      have hwa : IntKind.i64.wrap ((a : Int) + 1) = (a : Int) + 1 := wrap_i64 ⟨by omega, by omega⟩
      conv => whnf
      repeat' (first
        | (refine brK_true rfl ?_; conv => whnf)
        | (refine brK_false rfl ?_; conv => whnf)
        | (refine brK_true (by assumption) ?_; conv => whnf)
        | (refine brK_false (by assumption) ?_; conv => whnf)
        | (refine brK_true ?_ ?_; (focus (simp only [List.length_nil, fx] <;> omega)); conv => whnf)
        | (refine brK_false ?_ ?_; (focus (simp only [List.length_nil, fx] <;> omega)); conv => whnf)
        | ((refine brK_of (fun h => ?_) (fun h => ?_)) <;> (have h2 := h; (try simp only [List.length_nil, fx] at h2); conv => whnf))
        | (refine reqK_of ?_ ?_; (focus (first | decide | omega | assumption | (simp only [List.length_nil, fx] <;> omega) | (simp [keyNew, sameKey, kEq] <;> omega))); conv => whnf)
        | (refine reqK_of ?_ ?_; rotate_left; (conv => whnf); rotate_left)
        | (refine nth_us ?_ ?_ ?_; (focus (first | omega | (simp only [List.length_nil, fx] <;> omega))); (focus (first | omega | (simp only [List.length_nil, fx] <;> omega))); conv => whnf)
        | (refine nth_is ?_ ?_ ?_; (focus (first | omega | (simp only [List.length_nil, fx] <;> omega))); (focus (first | omega | (simp only [List.length_nil, fx] <;> omega))); conv => whnf)
        | (refine nth_bs ?_ ?_ ?_; (focus (first | omega | (simp only [List.length_nil, fx] <;> omega))); (focus (first | omega | (simp only [List.length_nil, fx] <;> omega))); conv => whnf))
      · refine loopFn [] (fun s => [.kill 8, .kill 21, .kill 22, .kill 23, .kill 24, .kill 25, .kill 26, .kill 27, .kill 28, .kill 29, .kill 30, .kill 31, .kill 32, .kill 33, .kill 34, .kill 35, .kill 36, .kill 37, .kill 38, .keep [66]]) (fun z : Nat => [(7, .t (.int .i64 (z : Int)))]) (fun _ => [(66, .cells [.t (.int .i64 0), .t (.int .i64 0), .t (.int .i64 0), .t (.int .i64 0)])]) (fun z => z ≤ 4 ∧ NoM s.data.toList fun o => ((o.k = k ∧ o.r = r) ∧ o.a = a) ∧ o.s < z) (fun z => 4 - z) 0 ⟨by omega, fun o ho hr => ?_⟩ ?_
        · have := (cOk_range (cR4_iff.1 ho)).2.2.1; omega
        conv => whnf
        refine ⟨⟨rfl, rfl⟩, fun z hz C3 hC3 => ?_⟩
        obtain ⟨hz1, hz2⟩ := hz
        have hwz : IntKind.i64.wrap ((z : Int) + 1) = (z : Int) + 1 := wrap_i64 ⟨by omega, by omega⟩
        have hR : cRight ⟨(k : Int), (r : Int), (a : Int), (z : Int)⟩ 4 4 = cR4 ⟨(k : Int), (r : Int), (a : Int), (z : Int)⟩ := cRight_44 _
        have next : (cR4 ⟨(k : Int), (r : Int), (a : Int), (z : Int)⟩ = true → cT ⟨(k : Int), (r : Int), (a : Int), (z : Int)⟩ ≠ s.data.toList) → NoM s.data.toList fun o => ((o.k = k ∧ o.r = r) ∧ o.a = a) ∧ o.s < ((z + 1 : Nat) : Int) := fun h o ho hh => by
          obtain ⟨ok, or_, oa, os_⟩ := o
          dsimp only at hh
          obtain ⟨⟨⟨rfl, rfl⟩, rfl⟩, hlt⟩ := hh
          by_cases e : os_ = (z : Int)
          · subst e; exact h ho
          · exact hz2 _ ho ⟨⟨⟨rfl, rfl⟩, rfl⟩, by dsimp only; omega⟩
        conv => whnf
        repeat' (first
          | (refine brK_true rfl ?_; conv => whnf)
          | (refine brK_false rfl ?_; conv => whnf)
          | (refine brK_true (by assumption) ?_; conv => whnf)
          | (refine brK_false (by assumption) ?_; conv => whnf)
          | (refine brK_true ?_ ?_; (focus (simp only [List.length_nil, fx] <;> omega)); conv => whnf)
          | (refine brK_false ?_ ?_; (focus (simp only [List.length_nil, fx] <;> omega)); conv => whnf)
          | ((refine brK_of (fun h => ?_) (fun h => ?_)) <;> (have h2 := h; (try simp only [List.length_nil, fx] at h2); conv => whnf))
          | (refine reqK_of ?_ ?_; (focus (first | decide | omega | assumption | (simp only [List.length_nil, fx] <;> omega) | (simp [keyNew, sameKey, kEq] <;> omega))); conv => whnf)
          | (refine reqK_of ?_ ?_; rotate_left; (conv => whnf); rotate_left)
          | (refine nth_us ?_ ?_ ?_; (focus (first | omega | (simp only [List.length_nil, fx] <;> omega))); (focus (first | omega | (simp only [List.length_nil, fx] <;> omega))); conv => whnf)
          | (refine nth_is ?_ ?_ ?_; (focus (first | omega | (simp only [List.length_nil, fx] <;> omega))); (focus (first | omega | (simp only [List.length_nil, fx] <;> omega))); conv => whnf)
          | (refine nth_bs ?_ ?_ ?_; (focus (first | omega | (simp only [List.length_nil, fx] <;> omega))); (focus (first | omega | (simp only [List.length_nil, fx] <;> omega))); conv => whnf))
        · have h9 : cRight ⟨(k : Int), (r : Int), (a : Int), (z : Int)⟩ 4 4 = true := by assumption
          rw [hR] at h9
          rw [dOneT_yes (dOne_iff.2 ⟨h9, txt_iff.1 (by assumption)⟩)]; rfl
        · refine loopC (hC3 (z + 1) ⟨by omega, next fun hr hc => ?_⟩ (by omega)) ?_
          · have h9 : eqS (cTxt ⟨(k : Int), (r : Int), (a : Int), (z : Int)⟩) s = false := by assumption
            rw [txt_iff.2 hc] at h9; cases h9
          · rw [hwz, Int.natCast_succ]; rfl
        · refine loopC (hC3 (z + 1) ⟨by omega, next fun hr => ?_⟩ (by omega)) ?_
          · have h9 : cRight ⟨(k : Int), (r : Int), (a : Int), (z : Int)⟩ 4 4 = false := by assumption
            rw [hR, hr] at h9; cases h9
          · rw [hwz, Int.natCast_succ]; rfl
        · refine loopC (hC2 (a + 1) ⟨by omega, fun o ho hh => ?_⟩ (by omega)) ?_
          · obtain ⟨h8, h9⟩ := hh
            have hs := (cOk_range (cR4_iff.1 ho)).2.2.1
            by_cases e : o.a = (a : Int)
            · exact hz2 o ho ⟨⟨h8, e⟩, by omega⟩
            · exact ha2 o ho ⟨h8, by omega⟩
          · rw [hwa, Int.natCast_succ]; rfl
      · refine loopC (hC1 (r + 1) ⟨by omega, fun o ho hh => ?_⟩ (by omega)) ?_
        · obtain ⟨h8, h9⟩ := hh
          have hs := (cOk_range (cR4_iff.1 ho)).2.1
          by_cases e : o.r = (r : Int)
          · exact ha2 o ho ⟨⟨h8, e⟩, by omega⟩
          · exact hr2 o ho ⟨h8, by omega⟩
        · rw [hwr, Int.natCast_succ]; rfl
    · refine loopC (hC (k + 1) ⟨by omega, by omega, fun o ho hh => ?_⟩ (by omega)) ?_
      · have hs := (cOk_range (cR4_iff.1 ho)).1
        by_cases e : o.k = (k : Int)
        · exact hr2 o ho ⟨e, by omega⟩
        · exact hk2 o ho (by omega)
      · rw [hwk, Int.natCast_succ]; rfl
  · rw [dOneT_no (dOne_none fun o ho => hk2 o ho (by have := (cOk_range (cR4_iff.1 ho)).2.2.2; omega))]; rfl
open Classical in
noncomputable def c50 : List T → Ans
  | [.str s] => .req (s.size ≤ 1048576) (dOneT s.data.toList)
  | _ => .no
theorem got50 {vs : List T} {x : T} (h : Got (c50 vs) x) : FnOk Tryd.prog tgl 50 vs x := by
  unfold c50 at h
  split at h
  · obtain ⟨hq, e⟩ := got_req h; rw [e]; exact ok50 _ hq
  · exact (got_no h).elim
theorem nogl50 (vs : List T) (p : Prop) (d : Decidable p) (sz : Nat) (xs : List T) (h : c50 vs = @Ans.gl p d sz xs) : False := by
  unfold c50 at h
  split at h <;> cases h
theorem pk50 (vs : List T) (p : Prop) (d : Decidable p) (x : T) (h : c50 vs = @Ans.pk p d x) (hp : p) : FnOk Tryd.prog tgl 50 vs x := by
  unfold c50 at h
  split at h
  · cases h
  · cases h
def firstD (W : List (List UInt8)) (k : Nat) : List COp := (W.take k).map fun p => (dOne p).getD opD
theorem firstD_len (W : List (List UInt8)) (k : Nat) : (firstD W k).length = min k W.length := by unfold firstD; rw [List.length_map, List.length_take]
theorem at_get {W : List (List UInt8)} {k : Nat} (h : k < W.length) : atB W (k : Int) = W[k] := by unfold atB; rw [Int.toNat_natCast, List.getD_eq_getElem?_getD, List.getElem?_eq_getElem h]; rfl
theorem firstD_snoc {W : List (List UInt8)} {k : Nat} (h : k < W.length) : os (firstD W k) ++ [opT ((dOne (atB W (k : Int))).getD opD)] = os (firstD W (k + 1)) := by
  unfold firstD os
  rw [List.take_add_one, at_get h, List.getElem?_eq_getElem h, Option.toList_some, List.map_append, List.map_append, List.map_cons, List.map_nil, List.map_cons, List.map_nil]
theorem d_none {t : ByteArray} {W : List (List UInt8)} (hW : spl 59 t.data.toList = W) {k : Nat} (hk : k < W.length) (h : (dOne (atB W (k : Int))).isSome = false) : opsO t.data.toList = none := by
  cases e : opsO t.data.toList with
  | none => rfl
  | some l =>
    obtain ⟨h1, h2, h3⟩ := opsO_iff.1 e
    have h4 : W = l.map cT := by
      rw [← hW, ← h3]
      unfold cP
      rw [if_neg h1, spl_jn (by simpa using h1)]
      intro p hp
      obtain ⟨o, _, rfl⟩ := List.mem_map.1 hp
      exact cT_no o
    subst h4
    rw [List.length_map] at hk
    rw [at_get (by rw [List.length_map]; exact hk), List.getElem_map, dOne_iff.2 ⟨h2 _ (List.getElem_mem hk), rfl⟩] at h
    cases h
theorem d_all {t : ByteArray} {W : List (List UInt8)} (hW : spl 59 t.data.toList = W) (h : ∀ j : Nat, j < W.length → (dOne (atB W (j : Int))).isSome = true) : opsO t.data.toList = some (firstD W W.length) := by
  have key : ∀ p ∈ W, cR4 ((dOne p).getD opD) = true ∧ cT ((dOne p).getD opD) = p := fun p hp => by
    obtain ⟨j, hj, rfl⟩ := List.mem_iff_getElem.1 hp
    have := h j hj
    rw [at_get hj] at this
    cases e : dOne W[j] with
    | none => rw [e] at this; cases this
    | some o => exact dOne_iff.1 e
  have hne : W ≠ [] := by rw [← hW]; exact spl_ne 59 _
  unfold firstD
  rw [List.take_length]
  refine opsO_iff.2 ⟨by simpa using hne, fun o ho => ?_, ?_⟩
  · obtain ⟨p, hp, rfl⟩ := List.mem_map.1 ho
    exact (key p hp).1
  · unfold cP
    rw [if_neg (by simpa using hne), List.map_map]
    have : W.map (cT ∘ fun p => (dOne p).getD opD) = W := by
      conv => rhs; rw [← List.map_id W]
      exact List.map_congr_left fun p hp => (key p hp).2
    rw [this, ← hW, jn_spl]
noncomputable def lK15 : List (Nat × (List T → Ans)) := (50, c50) :: (49, c49) :: lK14
noncomputable def iK15 : List (Nat × Pt) := iK14
noncomputable abbrev K15 : Env := En tgl lK15 iK15
theorem env_K15 : EnvOk Tryd.prog K15 := (env_fn (env_fn env_K14 (fun _ _ => got49) gl49 pk49) (fun _ _ => got50) (fun vs p d sz xs h _ => (nogl50 vs p d sz xs h).elim) pk50)
theorem ok17 (s : ByteArray) (hq : s.size ≤ 1048576) : FnOk Tryd.prog tgl 17 [.str s] (parT s.data.toList) := by
  refine fn_okK env_K15 Tryd.func17 low17 ?_
  have hsz := sz_list s
  have hlen := spl_len 59 s.data.toList
  have hcnt : s.data.toList.count 59 ≤ s.data.toList.length := List.count_le_length
  have q0 : s.size ≤ 1048576 ∧ (0 : Int) ≤ 59 ∧ (59 : Int) < 256 := ⟨hq, by decide, by decide⟩
  generalize hW : spl 59 s.data.toList = W at hlen
  have hW' : spl (bt 59) s.data.toList = W := hW
  by_cases hd : s.data.toList = [45]
  · have he : eqS s (⟨#[45]⟩ : ByteArray) = true := by rw [dash_iff]; exact decide_eq_true hd
    have ep : parT s.data.toList = .tup [.list 4 (os []), .int .i64 0] := by unfold parT; rw [hd, par_dash]
    conv => whnf
    repeat' (first
      | (refine brK_true rfl ?_; conv => whnf)
      | (refine brK_false rfl ?_; conv => whnf)
      | (refine brK_true (by assumption) ?_; conv => whnf)
      | (refine brK_false (by assumption) ?_; conv => whnf)
      | (refine brK_true ?_ ?_; (focus (simp only [List.length_nil, fx] <;> omega)); conv => whnf)
      | (refine brK_false ?_ ?_; (focus (simp only [List.length_nil, fx] <;> omega)); conv => whnf)
      | ((refine brK_of (fun h => ?_) (fun h => ?_)) <;> (have h2 := h; (try simp only [List.length_nil, fx] at h2); conv => whnf))
      | (refine reqK_of ?_ ?_; (focus (first | decide | omega | assumption | (simp only [List.length_nil, fx] <;> omega) | (simp [keyNew, sameKey, kEq] <;> omega))); conv => whnf)
      | (refine reqK_of ?_ ?_; rotate_left; (conv => whnf); rotate_left)
      | (refine nth_us ?_ ?_ ?_; (focus (first | omega | (simp only [List.length_nil, fx] <;> omega))); (focus (first | omega | (simp only [List.length_nil, fx] <;> omega))); conv => whnf)
      | (refine nth_is ?_ ?_ ?_; (focus (first | omega | (simp only [List.length_nil, fx] <;> omega))); (focus (first | omega | (simp only [List.length_nil, fx] <;> omega))); conv => whnf)
      | (refine nth_bs ?_ ?_ ?_; (focus (first | omega | (simp only [List.length_nil, fx] <;> omega))); (focus (first | omega | (simp only [List.length_nil, fx] <;> omega))); conv => whnf))
    rw [ep]
    exact tup_nil4
  · have he : eqS s (⟨#[45]⟩ : ByteArray) = false := by rw [dash_iff]; exact decide_eq_false hd
    conv => whnf
    repeat' (first
      | (refine brK_true rfl ?_; conv => whnf)
      | (refine brK_false rfl ?_; conv => whnf)
      | (refine brK_true (by assumption) ?_; conv => whnf)
      | (refine brK_false (by assumption) ?_; conv => whnf)
      | (refine brK_true ?_ ?_; (focus (simp only [List.length_nil, fx] <;> omega)); conv => whnf)
      | (refine brK_false ?_ ?_; (focus (simp only [List.length_nil, fx] <;> omega)); conv => whnf)
      | ((refine brK_of (fun h => ?_) (fun h => ?_)) <;> (have h2 := h; (try simp only [List.length_nil, fx] at h2); conv => whnf))
      | (refine reqK_of ?_ ?_; (focus (first | decide | omega | assumption | (simp only [List.length_nil, fx] <;> omega) | (simp [keyNew, sameKey, kEq] <;> omega))); conv => whnf)
      | (refine reqK_of ?_ ?_; rotate_left; (conv => whnf); rotate_left)
      | (refine nth_us ?_ ?_ ?_; (focus (first | omega | (simp only [List.length_nil, fx] <;> omega))); (focus (first | omega | (simp only [List.length_nil, fx] <;> omega))); conv => whnf)
      | (refine nth_is ?_ ?_ ?_; (focus (first | omega | (simp only [List.length_nil, fx] <;> omega))); (focus (first | omega | (simp only [List.length_nil, fx] <;> omega))); conv => whnf)
      | (refine nth_bs ?_ ?_ ?_; (focus (first | omega | (simp only [List.length_nil, fx] <;> omega))); (focus (first | omega | (simp only [List.length_nil, fx] <;> omega))); conv => whnf))
    refine loopFn [.adopt 5 1001 4] (fun s => [.kill 7, .kill 8, .kill 13, .kill 14, .kill 15, .kill 16, .kill 17, .kill 18, .kill 19, .kill 20, .kill 21, .kill 22, .kill 23, .kill 24, .kill 25, .kill 26, .kill 27, .kill 28, .kill 29, .kill 30, .kill 31, .kill 32, .keep [96, 76], .ren 96 1001]) (fun k : Nat => [(5, .sl 1001 0 none), (6, .t (.int .i64 (k : Int)))]) (fun k => [(1001, .lst 4 (os (firstD W k)) 1), (76, .lst 1 (ss W) 1)]) (fun k => k ≤ W.length ∧ ∀ j : Nat, j < k → (dOne (atB W (j : Int))).isSome = true) (fun k => W.length - k) 0 ⟨Nat.zero_le _, fun j h => by omega⟩ ?_
    conv => whnf
    refine ⟨⟨rfl, by rw [hW']; rfl⟩, fun k hk C hC => ?_⟩
    obtain ⟨hk1, hk2⟩ := hk
    have hw : IntKind.i64.wrap ((k : Int) + 1) = (k : Int) + 1 := wrap_i64 ⟨by omega, by omega⟩
    have hfl := firstD_len W k
    have hfl2 : (os (firstD W k)).length = min k W.length := by rw [os_len, hfl]
    conv => whnf
    repeat' (first
      | (refine brK_true rfl ?_; conv => whnf)
      | (refine brK_false rfl ?_; conv => whnf)
      | (refine brK_true (by assumption) ?_; conv => whnf)
      | (refine brK_false (by assumption) ?_; conv => whnf)
      | (refine brK_true ?_ ?_; (focus (simp only [List.length_nil, fx, ss_len, hW', hfl2] <;> omega)); conv => whnf)
      | (refine brK_false ?_ ?_; (focus (simp only [List.length_nil, fx, ss_len, hW', hfl2] <;> omega)); conv => whnf)
      | ((refine brK_of (fun h => ?_) (fun h => ?_)) <;> (have h2 := h; (try simp only [List.length_nil, fx, ss_len, hW', hfl2] at h2); conv => whnf))
      | (refine reqK_of ?_ ?_; (focus (first | decide | omega | assumption | (simp only [List.length_nil, fx, ss_len, hW', hfl2] <;> omega) | (simp [keyNew, sameKey, kEq] <;> omega))); conv => whnf)
      | (refine reqK_of ?_ ?_; rotate_left; (conv => whnf); rotate_left)
      | (refine nth_ss ?_ ?_ ?_; (focus (first | omega | (simp only [List.length_nil, fx, ss_len, hW', hfl2] <;> omega))); (focus (first | omega | (simp only [List.length_nil, fx, ss_len, hW', hfl2] <;> omega))); conv => whnf)
      | (refine nth_us ?_ ?_ ?_; (focus (first | omega | (simp only [List.length_nil, fx, ss_len, hW', hfl2] <;> omega))); (focus (first | omega | (simp only [List.length_nil, fx, ss_len, hW', hfl2] <;> omega))); conv => whnf)
      | (refine nth_is ?_ ?_ ?_; (focus (first | omega | (simp only [List.length_nil, fx, ss_len, hW', hfl2] <;> omega))); (focus (first | omega | (simp only [List.length_nil, fx, ss_len, hW', hfl2] <;> omega))); conv => whnf)
      | (refine nth_bs ?_ ?_ ?_; (focus (first | omega | (simp only [List.length_nil, fx, ss_len, hW', hfl2] <;> omega))); (focus (first | omega | (simp only [List.length_nil, fx, ss_len, hW', hfl2] <;> omega))); conv => whnf))
    · have := piece_len (k := k) hW (by omega); omega
    · have ep : parT s.data.toList = .tup [.list 4 (os []), .int .i64 2] := by
        unfold parT
        rw [par_no hd (d_none hW (k := k) (by omega) (by assumption))]
      rw [ep]; exact tup_nil4
    · unfold maxBytes; simp only [List.length_cons, List.length_nil]; omega
    · refine loopC (hC (k + 1) ⟨by omega, fun j hj => ?_⟩ (by omega)) ?_
      · rcases Nat.lt_succ_iff_lt_or_eq.1 hj with h | h
        · exact hk2 j h
        · subst h; assumption
      · rw [← firstD_snoc (by omega), hw, Int.natCast_succ]; rfl
    · have hk3 : k = W.length := by omega
      subst hk3
      have ep : parT s.data.toList = .tup [.list 4 (os []), .int .i64 3] := by
        unfold parT
        rw [par_lim hd (d_all hW hk2) (by rw [hfl]; omega)]
      rw [ep]; exact tup_nil4
    · have hk3 : k = W.length := by omega
      subst hk3
      have ep : parT s.data.toList = .tup [.list 4 (os (firstD W W.length)), .int .i64 0] := by
        unfold parT
        rw [par_yes hd (d_all hW hk2) (by rw [hfl]; omega)]
      rw [ep, subL_00]; exact sameR_refl _
open Classical in
noncomputable def c17 : List T → Ans
  | [.str s] => .req (s.size ≤ 1048576) (parT s.data.toList)
  | _ => .no
theorem got17 {vs : List T} {x : T} (h : Got (c17 vs) x) : FnOk Tryd.prog tgl 17 vs x := by
  unfold c17 at h
  split at h
  · obtain ⟨hq, e⟩ := got_req h; rw [e]; exact ok17 _ hq
  · exact (got_no h).elim
theorem nogl17 (vs : List T) (p : Prop) (d : Decidable p) (sz : Nat) (xs : List T) (h : c17 vs = @Ans.gl p d sz xs) : False := by
  unfold c17 at h
  split at h <;> cases h
theorem pk17 (vs : List T) (p : Prop) (d : Decidable p) (x : T) (h : c17 vs = @Ans.pk p d x) (hp : p) : FnOk Tryd.prog tgl 17 vs x := by
  unfold c17 at h
  split at h
  · cases h
  · cases h
end Go.Nx
end
section
set_option linter.unusedVariables false
set_option linter.unusedSimpArgs false
set_option maxRecDepth 20000
set_option maxHeartbeats 4000000
namespace Go.Nx
open Go Go.RowKit Go.Proofs

theorem os_snoc {l : List COp} {k : Nat} (h : k < l.length) : os (l.take k) ++ [opT (atO l (k : Int))] = os (l.take (k + 1)) := by
  unfold os
  rw [List.take_add_one, atO_at h, List.getElem?_eq_getElem h, Option.toList_some, List.map_append, List.map_cons, List.map_nil]
theorem sameR_nil (l : List COp) (h : l = []) : sameR (.list 4 (os l)) .nils := fun S w v hv => by subst h; exact nil_list 4 hv
theorem ok18 (xs : List T) (hq : IsO xs) : FnOk Tryd.prog tgl 18 [.list 4 xs] (.list 4 xs) := by
  obtain ⟨l, rfl, hl, hL⟩ := hq
  refine fn_okK env_K8 Tryd.func18 low18 ?_
  conv => whnf
  repeat' (first
    | (refine brK_true rfl ?_; conv => whnf)
    | (refine brK_false rfl ?_; conv => whnf)
    | (refine brK_true (by assumption) ?_; conv => whnf)
    | (refine brK_false (by assumption) ?_; conv => whnf)
    | (refine brK_true ?_ ?_; (focus (simp only [List.length_nil, fx, os_len] <;> omega)); conv => whnf)
    | (refine brK_false ?_ ?_; (focus (simp only [List.length_nil, fx, os_len] <;> omega)); conv => whnf)
    | ((refine brK_of (fun h => ?_) (fun h => ?_)) <;> (have h2 := h; (try simp only [List.length_nil, fx, os_len] at h2); conv => whnf))
    | (refine reqK_of ?_ ?_; (focus (first | decide | omega | assumption | (simp only [List.length_nil, fx, os_len] <;> omega) | (simp [keyNew, sameKey, kEq] <;> omega))); conv => whnf)
    | (refine reqK_of ?_ ?_; rotate_left; (conv => whnf); rotate_left)
    | (refine nth_us ?_ ?_ ?_; (focus (first | omega | (simp only [List.length_nil, fx, os_len] <;> omega))); (focus (first | omega | (simp only [List.length_nil, fx, os_len] <;> omega))); conv => whnf)
    | (refine nth_is ?_ ?_ ?_; (focus (first | omega | (simp only [List.length_nil, fx, os_len] <;> omega))); (focus (first | omega | (simp only [List.length_nil, fx, os_len] <;> omega))); conv => whnf)
    | (refine nth_bs ?_ ?_ ?_; (focus (first | omega | (simp only [List.length_nil, fx, os_len] <;> omega))); (focus (first | omega | (simp only [List.length_nil, fx, os_len] <;> omega))); conv => whnf))
  refine loopFn [.adopt 3 1001 4] (fun s => [.kill 5, .kill 6, .kill 7, .kill 8, .kill 9, .kill 10, .kill 11, .kill 12, .kill 13, .kill 14, .kill 15, .kill 16, .kill 17, .kill 18, .kill 19, .kill 20, .kill 21, .kill 22, .kill 23, .kill 24, .kill 25, .kill 26, .kill 27, .kill 28, .kill 29, .kill 30, .kill 31, .kill 32, .kill 33, .kill 34, .keep [98], .ren 98 1001]) (fun k : Nat => [(3, .sl 1001 0 none), (4, .t (.int .i64 (k : Int)))]) (fun k => [(1001, .lst 4 (os (l.take k)) 1)]) (fun k => k ≤ l.length) (fun k => l.length - k) 0 (Nat.zero_le _) ?_
  conv => whnf
  refine ⟨⟨rfl, rfl⟩, fun k hk C hC => ?_⟩
  have hw : IntKind.i64.wrap ((k : Int) + 1) = (k : Int) + 1 := wrap_i64 ⟨by omega, by omega⟩
  have hlt : (os (l.take k)).length = min k l.length := by rw [os_len, List.length_take]
  conv => whnf
  repeat' (first
    | (refine brK_true rfl ?_; conv => whnf)
    | (refine brK_false rfl ?_; conv => whnf)
    | (refine brK_true (by assumption) ?_; conv => whnf)
    | (refine brK_false (by assumption) ?_; conv => whnf)
    | (refine brK_true ?_ ?_; (focus (simp only [List.length_nil, fx, os_len, hlt] <;> omega)); conv => whnf)
    | (refine brK_false ?_ ?_; (focus (simp only [List.length_nil, fx, os_len, hlt] <;> omega)); conv => whnf)
    | ((refine brK_of (fun h => ?_) (fun h => ?_)) <;> (have h2 := h; (try simp only [List.length_nil, fx, os_len, hlt] at h2); conv => whnf))
    | (refine reqK_of ?_ ?_; (focus (first | decide | omega | assumption | (simp only [List.length_nil, fx, os_len, hlt] <;> omega) | (simp [keyNew, sameKey, kEq] <;> omega))); conv => whnf)
    | (refine reqK_of ?_ ?_; rotate_left; (conv => whnf); rotate_left)
    | (refine nth_os ?_ ?_ ?_; (focus (first | omega | (simp only [List.length_nil, fx, os_len, hlt] <;> omega))); (focus (first | omega | (simp only [List.length_nil, fx, os_len, hlt] <;> omega))); conv => whnf)
    | (refine nth_us ?_ ?_ ?_; (focus (first | omega | (simp only [List.length_nil, fx, os_len, hlt] <;> omega))); (focus (first | omega | (simp only [List.length_nil, fx, os_len, hlt] <;> omega))); conv => whnf)
    | (refine nth_is ?_ ?_ ?_; (focus (first | omega | (simp only [List.length_nil, fx, os_len, hlt] <;> omega))); (focus (first | omega | (simp only [List.length_nil, fx, os_len, hlt] <;> omega))); conv => whnf)
    | (refine nth_bs ?_ ?_ ?_; (focus (first | omega | (simp only [List.length_nil, fx, os_len, hlt] <;> omega))); (focus (first | omega | (simp only [List.length_nil, fx, os_len, hlt] <;> omega))); conv => whnf))
  · unfold maxBytes; simp only [List.length_cons, List.length_nil, hlt]; omega
  · refine loopC (hC (k + 1) (by omega) (by omega)) ?_
    rw [← os_snoc (by omega), hw, Int.natCast_succ]; rfl
  · rw [subL_00, List.take_of_length_le (by omega)]; exact sameR_refl _
open Classical in
noncomputable def c18 : List T → Ans
  | [.list 4 xs] => .req (IsO xs) (.list 4 xs)
  | _ => .no
theorem got18 {vs : List T} {x : T} (h : Got (c18 vs) x) : FnOk Tryd.prog tgl 18 vs x := by
  unfold c18 at h
  split at h
  · obtain ⟨hq, e⟩ := got_req h; rw [e]; exact ok18 _ hq
  · exact (got_no h).elim
theorem nogl18 (vs : List T) (p : Prop) (d : Decidable p) (sz : Nat) (xs : List T) (h : c18 vs = @Ans.gl p d sz xs) : False := by
  unfold c18 at h
  split at h <;> cases h
theorem pk18 (vs : List T) (p : Prop) (d : Decidable p) (x : T) (h : c18 vs = @Ans.pk p d x) (hp : p) : FnOk Tryd.prog tgl 18 vs x := by
  unfold c18 at h
  split at h
  · cases h
  · cases h
noncomputable def lK16 : List (Nat × (List T → Ans)) := (18, c18) :: lK8
noncomputable def iK16 : List (Nat × Pt) := iK8
noncomputable abbrev K16 : Env := En tgl lK16 iK16
theorem env_K16 : EnvOk Tryd.prog K16 := (env_fn env_K8 (fun _ _ => got18) (fun vs p d sz xs h _ => (nogl18 vs p d sz xs h).elim) pk18)
theorem eqO (x y : COp) : (eqI x.k y.k && (eqI x.r y.r && (eqI x.a y.a && (eqI x.s y.s && true)))) = decide (x = y) := by
  rw [eqI_def, eqI_def, eqI_def, eqI_def, Bool.eq_iff_iff, decide_eq_true_eq]
  obtain ⟨a, b, c, d⟩ := x
  obtain ⟨e, f, g, h⟩ := y
  simp
theorem take_nextO {a b : List COp} {k : Nat} (h : a.take k = b.take k) (h1 : k < a.length) (h2 : k < b.length) (e : atO a (k : Int) = atO b (k : Int)) : a.take (k + 1) = b.take (k + 1) := by
  rw [atO_at h1, atO_at h2] at e
  rw [List.take_add_one, List.take_add_one, h, List.getElem?_eq_getElem h1, List.getElem?_eq_getElem h2, e]
theorem ok19 (xs ys : List T) (hq : IsO xs ∧ IsO ys) : FnOk Tryd.prog tgl 19 [.list 4 xs, .list 4 ys] (.bool (decide (opsOf xs = opsOf ys))) := by
  refine fn_ok (Γ := K16) env_K16 Tryd.func19 low19 ?_
  obtain ⟨⟨l, rfl, hl, hL⟩, m, rfl, hm, hM⟩ := hq
  rw [opsOf_os, opsOf_os]
  have hq0 : IsO (os l) := ⟨l, rfl, hl, hL⟩
  conv => whnf
  repeat' (first
    | (refine brK_true rfl ?_; conv => whnf)
    | (refine brK_false rfl ?_; conv => whnf)
    | (refine brK_true (by assumption) ?_; conv => whnf)
    | (refine brK_false (by assumption) ?_; conv => whnf)
    | (refine brK_true ?_ ?_; (focus (simp only [List.length_nil, fx, os_len] <;> omega)); conv => whnf)
    | (refine brK_false ?_ ?_; (focus (simp only [List.length_nil, fx, os_len] <;> omega)); conv => whnf)
    | ((refine brK_of (fun h => ?_) (fun h => ?_)) <;> (have h2 := h; (try simp only [List.length_nil, fx, os_len] at h2); conv => whnf))
    | (refine reqK_of ?_ ?_; (focus (first | decide | omega | assumption | (simp only [List.length_nil, fx, os_len] <;> omega) | (simp [keyNew, sameKey, kEq] <;> omega))); conv => whnf)
    | (refine reqK_of ?_ ?_; rotate_left; (conv => whnf); rotate_left)
    | (refine nth_us ?_ ?_ ?_; (focus (first | omega | (simp only [List.length_nil, fx, os_len] <;> omega))); (focus (first | omega | (simp only [List.length_nil, fx, os_len] <;> omega))); conv => whnf)
    | (refine nth_is ?_ ?_ ?_; (focus (first | omega | (simp only [List.length_nil, fx, os_len] <;> omega))); (focus (first | omega | (simp only [List.length_nil, fx, os_len] <;> omega))); conv => whnf)
    | (refine nth_bs ?_ ?_ ?_; (focus (first | omega | (simp only [List.length_nil, fx, os_len] <;> omega))); (focus (first | omega | (simp only [List.length_nil, fx, os_len] <;> omega))); conv => whnf))
  · have : l ≠ m := fun e => by subst e; simp at *
    rw [decide_eq_false this]
  · refine loopUp [] [.kill 14, .kill 15, .kill 16, .kill 17, .kill 18, .kill 19, .kill 20, .kill 21, .kill 22, .kill 23, .kill 24, .kill 25, .kill 26, .kill 27, .kill 28] (fun k : Nat => [(6, .t (.int .i64 (k : Int)))]) (fun _ => []) (fun k => k ≤ l.length ∧ l.take k = m.take k) (fun k => l.length - k) 0 ⟨Nat.zero_le _, rfl⟩ ?_
    conv => whnf
    refine ⟨⟨rfl, rfl⟩, fun k hk C hC => ?_⟩
    obtain ⟨hk1, hk2⟩ := hk
    have hw : IntKind.i64.wrap ((k : Int) + 1) = (k : Int) + 1 := wrap_i64 ⟨by omega, by omega⟩
    have he := eqO (atO l (k : Int)) (atO m (k : Int))
    conv => whnf
    repeat' (first
      | (refine brK_true rfl ?_; conv => whnf)
      | (refine brK_false rfl ?_; conv => whnf)
      | (refine brK_true (by assumption) ?_; conv => whnf)
      | (refine brK_false (by assumption) ?_; conv => whnf)
      | (refine brK_true ?_ ?_; (focus (simp only [List.length_nil, fx, os_len, he] <;> omega)); conv => whnf)
      | (refine brK_false ?_ ?_; (focus (simp only [List.length_nil, fx, os_len, he] <;> omega)); conv => whnf)
      | ((refine brK_of (fun h => ?_) (fun h => ?_)) <;> (have h2 := h; (try simp only [List.length_nil, fx, os_len, he] at h2); conv => whnf))
      | (refine reqK_of ?_ ?_; (focus (first | decide | omega | assumption | (simp only [List.length_nil, fx, os_len, he] <;> omega) | (simp [keyNew, sameKey, kEq] <;> omega))); conv => whnf)
      | (refine reqK_of ?_ ?_; rotate_left; (conv => whnf); rotate_left)
      | (refine nth_os ?_ ?_ ?_; (focus (first | omega | (simp only [List.length_nil, fx, os_len, he] <;> omega))); (focus (first | omega | (simp only [List.length_nil, fx, os_len, he] <;> omega))); conv => whnf)
      | (refine nth_us ?_ ?_ ?_; (focus (first | omega | (simp only [List.length_nil, fx, os_len, he] <;> omega))); (focus (first | omega | (simp only [List.length_nil, fx, os_len, he] <;> omega))); conv => whnf)
      | (refine nth_is ?_ ?_ ?_; (focus (first | omega | (simp only [List.length_nil, fx, os_len, he] <;> omega))); (focus (first | omega | (simp only [List.length_nil, fx, os_len, he] <;> omega))); conv => whnf)
      | (refine nth_bs ?_ ?_ ?_; (focus (first | omega | (simp only [List.length_nil, fx, os_len, he] <;> omega))); (focus (first | omega | (simp only [List.length_nil, fx, os_len, he] <;> omega))); conv => whnf))
    · have hne : atO l (k : Int) ≠ atO m (k : Int) := of_decide_eq_false (by assumption)
      rw [decide_eq_false (fun e => hne (by rw [e]))]
    · have heq : atO l (k : Int) = atO m (k : Int) := of_decide_eq_true (by assumption)
      refine loopC (hC (k + 1) ⟨by omega, take_nextO hk2 (by omega) (by omega) heq⟩ (by omega)) ?_
      rw [hw, Int.natCast_succ]; rfl
    · have : l = m := by
        rw [← List.take_length (l := l), ← List.take_length (l := m), show l.length = m.length by omega]
        rw [List.take_of_length_le (by omega), List.take_of_length_le (by omega)] at hk2
        rw [hk2]
      rw [decide_eq_true this]
open Classical in
noncomputable def c19 : List T → Ans
  | [.list 4 xs, .list 4 ys] => .req (IsO xs ∧ IsO ys) (.bool (decide (opsOf xs = opsOf ys)))
  | _ => .no
theorem got19 {vs : List T} {x : T} (h : Got (c19 vs) x) : FnOk Tryd.prog tgl 19 vs x := by
  unfold c19 at h
  split at h
  · obtain ⟨hq, e⟩ := got_req h; rw [e]; exact ok19 _ _ hq
  · exact (got_no h).elim
theorem nogl19 (vs : List T) (p : Prop) (d : Decidable p) (sz : Nat) (xs : List T) (h : c19 vs = @Ans.gl p d sz xs) : False := by
  unfold c19 at h
  split at h <;> cases h
theorem pk19 (vs : List T) (p : Prop) (d : Decidable p) (x : T) (h : c19 vs = @Ans.pk p d x) (hp : p) : FnOk Tryd.prog tgl 19 vs x := by
  unfold c19 at h
  split at h
  · cases h
  · cases h
def someOp (b : Int) : COp :=
  let k := IntKind.i64.wrap (1 + IntKind.i64.wrap (b.tmod 5))
  ⟨k, IntKind.i64.wrap ((IntKind.u8.wrap (b.tdiv 5)).tmod 4), if k = 1 ∨ k = 2 ∨ k = 4 then IntKind.i64.wrap ((IntKind.u8.wrap (b.tdiv 20)).tmod 4) else 0, if k = 1 ∨ k = 2 then IntKind.i64.wrap ((IntKind.u8.wrap (b.tdiv 64)).tmod 4) else 0⟩
theorem some_all : ∀ b : Fin 256, cR4 (someOp (b.val : Int)) = true := by decide +kernel
theorem some_right {b : Int} (h : 0 ≤ b ∧ b < 256) : cR4 (someOp b) = true := by
  have := some_all ⟨b.toNat, by omega⟩
  rwa [show (((⟨b.toNat, by omega⟩ : Fin 256).val : Nat) : Int) = b by simp; omega] at this
def someOps (l : List Int) : List COp := l.map someOp
theorem some_yy {b : Int} (h : IntKind.i64.wrap (1 + IntKind.i64.wrap (b.tmod 5)) = 1 ∨ IntKind.i64.wrap (1 + IntKind.i64.wrap (b.tmod 5)) = 2) : someOp b = ⟨IntKind.i64.wrap (1 + IntKind.i64.wrap (b.tmod 5)), IntKind.i64.wrap ((IntKind.u8.wrap (b.tdiv 5)).tmod 4), IntKind.i64.wrap ((IntKind.u8.wrap (b.tdiv 20)).tmod 4), IntKind.i64.wrap ((IntKind.u8.wrap (b.tdiv 64)).tmod 4)⟩ := by
  unfold someOp
  dsimp only
  rw [if_pos h, if_pos (by omega)]
theorem some_yn {b : Int} (h : IntKind.i64.wrap (1 + IntKind.i64.wrap (b.tmod 5)) = 4) : someOp b = ⟨IntKind.i64.wrap (1 + IntKind.i64.wrap (b.tmod 5)), IntKind.i64.wrap ((IntKind.u8.wrap (b.tdiv 5)).tmod 4), IntKind.i64.wrap ((IntKind.u8.wrap (b.tdiv 20)).tmod 4), 0⟩ := by
  unfold someOp
  dsimp only
  rw [if_pos (show IntKind.i64.wrap (1 + IntKind.i64.wrap (b.tmod 5)) = 1 ∨ IntKind.i64.wrap (1 + IntKind.i64.wrap (b.tmod 5)) = 2 ∨ IntKind.i64.wrap (1 + IntKind.i64.wrap (b.tmod 5)) = 4 by omega), if_neg (show ¬ (IntKind.i64.wrap (1 + IntKind.i64.wrap (b.tmod 5)) = 1 ∨ IntKind.i64.wrap (1 + IntKind.i64.wrap (b.tmod 5)) = 2) by omega)]
theorem some_nn {b : Int} (h : ¬ (IntKind.i64.wrap (1 + IntKind.i64.wrap (b.tmod 5)) = 1 ∨ IntKind.i64.wrap (1 + IntKind.i64.wrap (b.tmod 5)) = 2 ∨ IntKind.i64.wrap (1 + IntKind.i64.wrap (b.tmod 5)) = 4)) : someOp b = ⟨IntKind.i64.wrap (1 + IntKind.i64.wrap (b.tmod 5)), IntKind.i64.wrap ((IntKind.u8.wrap (b.tdiv 5)).tmod 4), 0, 0⟩ := by
  unfold someOp
  dsimp only
  rw [if_neg (by omega), if_neg (by omega)]
def IsBs (xs : List T) : Prop := ∃ l, xs = bs l ∧ l.length ≤ 1048576 ∧ ∀ b ∈ l, 0 ≤ b ∧ b < 256
theorem some_snoc {l : List Int} {k : Nat} (h : k < l.length) : os (someOps (l.take k)) ++ [opT (someOp (at0 l (k : Int)))] = os (someOps (l.take (k + 1))) := by
  have e : l[k]? = some (at0 l (k : Int)) := by simp [at0, h]
  unfold os someOps
  rw [List.take_add_one, e, Option.toList_some, List.map_append, List.map_cons, List.map_nil, List.map_append, List.map_cons, List.map_nil]
def numsK (xs : List T) : List Int := xs.map T.n
theorem ok30 (xs : List T) (hq : IsBs xs) : FnOk Tryd.prog tgl 30 [.list 1 xs] (.list 4 (os (someOps (nums xs)))) := by
  obtain ⟨l, rfl, hl, hL⟩ := hq
  rw [nums_bs]
  refine fn_okK env_K8 Tryd.func30 low30 ?_
  conv => whnf
  repeat' (first
    | (refine brK_true rfl ?_; conv => whnf)
    | (refine brK_false rfl ?_; conv => whnf)
    | (refine brK_true (by assumption) ?_; conv => whnf)
    | (refine brK_false (by assumption) ?_; conv => whnf)
    | (refine brK_true ?_ ?_; (focus (simp only [List.length_nil, fx] <;> omega)); conv => whnf)
    | (refine brK_false ?_ ?_; (focus (simp only [List.length_nil, fx] <;> omega)); conv => whnf)
    | ((refine brK_of (fun h => ?_) (fun h => ?_)) <;> (have h2 := h; (try simp only [List.length_nil, fx] at h2); conv => whnf))
    | (refine reqK_of ?_ ?_; (focus (first | decide | omega | assumption | (simp only [List.length_nil, fx] <;> omega) | (simp [keyNew, sameKey, kEq] <;> omega))); conv => whnf)
    | (refine reqK_of ?_ ?_; rotate_left; (conv => whnf); rotate_left)
    | (refine nth_us ?_ ?_ ?_; (focus (first | omega | (simp only [List.length_nil, fx] <;> omega))); (focus (first | omega | (simp only [List.length_nil, fx] <;> omega))); conv => whnf)
    | (refine nth_is ?_ ?_ ?_; (focus (first | omega | (simp only [List.length_nil, fx] <;> omega))); (focus (first | omega | (simp only [List.length_nil, fx] <;> omega))); conv => whnf)
    | (refine nth_bs ?_ ?_ ?_; (focus (first | omega | (simp only [List.length_nil, fx] <;> omega))); (focus (first | omega | (simp only [List.length_nil, fx] <;> omega))); conv => whnf))
  refine loopFn [.adopt 3 1001 4] (fun s => [.kill 5, .kill 6, .kill 7, .kill 8, .kill 9, .kill 10, .kill 11, .kill 12, .kill 13, .kill 14, .kill 15, .kill 16, .kill 17, .kill 18, .kill 19, .kill 20, .kill 21, .kill 22, .kill 23, .kill 24, .kill 25, .kill 26, .kill 27, .kill 28, .kill 29, .kill 30, .kill 31, .kill 32, .kill 33, .kill 34, .kill 35, .kill 36, .kill 37, .kill 38, .kill 39, .kill 40, .kill 41, .kill 42, .kill 43, .kill 44, .kill 45, .kill 46, .kill 47, .kill 48, .kill 49, .kill 50, .kill 51, .kill 52, .kill 53, .kill 54, .kill 55, .kill 56, .kill 57, .kill 58, .kill 59, .kill 60, .kill 61, .kill 62, .kill 63, .kill 64, .kill 65, .kill 66, .kill 67, .keep [131], .ren 131 1001]) (fun k : Nat => [(3, .sl 1001 0 none), (4, .t (.int .i64 (k : Int)))]) (fun k => [(1001, .lst 4 (os (someOps (l.take k))) 1)]) (fun k => k ≤ l.length) (fun k => l.length - k) 0 (Nat.zero_le _) ?_
  conv => whnf
  refine ⟨⟨rfl, rfl⟩, fun k hk C hC => ?_⟩
  have hw : IntKind.i64.wrap ((k : Int) + 1) = (k : Int) + 1 := wrap_i64 ⟨by omega, by omega⟩
  have hlt : (os (someOps (l.take k))).length = min k l.length := by rw [os_len]; unfold someOps; rw [List.length_map, List.length_take]
  conv => whnf
  repeat' (first
    | (refine brK_true rfl ?_; conv => whnf)
    | (refine brK_false rfl ?_; conv => whnf)
    | (refine brK_true (by assumption) ?_; conv => whnf)
    | (refine brK_false (by assumption) ?_; conv => whnf)
    | (refine brK_true ?_ ?_; (focus (simp only [List.length_nil, fx, os_len, hlt] <;> omega)); conv => whnf)
    | (refine brK_false ?_ ?_; (focus (simp only [List.length_nil, fx, os_len, hlt] <;> omega)); conv => whnf)
    | ((refine brK_of (fun h => ?_) (fun h => ?_)) <;> (have h2 := h; (try simp only [List.length_nil, fx, os_len, hlt] at h2); conv => whnf))
    | (refine reqK_of ?_ ?_; (focus (first | decide | omega | assumption | (simp only [List.length_nil, fx, os_len, hlt] <;> omega) | (simp [keyNew, sameKey, kEq] <;> omega))); conv => whnf)
    | (refine reqK_of ?_ ?_; rotate_left; (conv => whnf); rotate_left)
    | (refine nth_us ?_ ?_ ?_; (focus (first | omega | (simp only [List.length_nil, fx, os_len, hlt] <;> omega))); (focus (first | omega | (simp only [List.length_nil, fx, os_len, hlt] <;> omega))); conv => whnf)
    | (refine nth_is ?_ ?_ ?_; (focus (first | omega | (simp only [List.length_nil, fx, os_len, hlt] <;> omega))); (focus (first | omega | (simp only [List.length_nil, fx, os_len, hlt] <;> omega))); conv => whnf)
    | (refine nth_bs ?_ ?_ ?_; (focus (first | omega | (simp only [List.length_nil, fx, os_len, hlt] <;> omega))); (focus (first | omega | (simp only [List.length_nil, fx, os_len, hlt] <;> omega))); conv => whnf))
  all_goals first
    | (unfold maxBytes; simp only [List.length_cons, List.length_nil, hlt]; omega)
    | (refine loopC (hC (k + 1) (by omega) (by omega)) ?_
       rw [← some_snoc (by omega), hw, Int.natCast_succ]
       first
         | (rw [some_yy (by omega)]; rfl)
         | (rw [some_yn (by omega)]; rfl)
         | (rw [some_nn (by omega)]; rfl))
    | (rw [subL_00, List.take_of_length_le (by omega)]; exact sameR_refl _)
open Classical in
noncomputable def c30 : List T → Ans
  | [.list 1 xs] => .req (IsBs xs) (.list 4 (os (someOps (nums xs))))
  | _ => .no
theorem got30 {vs : List T} {x : T} (h : Got (c30 vs) x) : FnOk Tryd.prog tgl 30 vs x := by
  unfold c30 at h
  split at h
  · obtain ⟨hq, e⟩ := got_req h; rw [e]; exact ok30 _ hq
  · exact (got_no h).elim
theorem nogl30 (vs : List T) (p : Prop) (d : Decidable p) (sz : Nat) (xs : List T) (h : c30 vs = @Ans.gl p d sz xs) : False := by
  unfold c30 at h
  split at h <;> cases h
theorem pk30 (vs : List T) (p : Prop) (d : Decidable p) (x : T) (h : c30 vs = @Ans.pk p d x) (hp : p) : FnOk Tryd.prog tgl 30 vs x := by
  unfold c30 at h
  split at h
  · cases h
  · cases h
def inI (n : Int) : Bool := decide (-9223372036854775808 ≤ n ∧ n < 9223372036854775808)
theorem inI_ok {n : Int} (h : inI n = true) : I64 n := by
  unfold inI at h
  have := of_decide_eq_true h
  unfold I64
  omega
def isOp : T → Bool
  | .agg [.int .i64 k, .int .i64 r, .int .i64 a, .int .i64 s] => inI k && (inI r && (inI a && inI s))
  | _ => false
theorem isOp_ok {x : T} (h : isOp x = true) : x = opT (opOf x) ∧ OpI (opOf x) := by
  unfold isOp at h
  split at h
  · rename_i k r a s
    simp only [Bool.and_eq_true] at h
    exact ⟨rfl, inI_ok h.1, inI_ok h.2.1, inI_ok h.2.2.1, inI_ok h.2.2.2⟩
  · cases h
def isOB (xs : List T) : Bool := xs.all isOp && Nat.ble xs.length 1000
theorem isOB_ok {xs : List T} (h : isOB xs = true) : IsO xs := by
  unfold isOB at h
  rw [Bool.and_eq_true, List.all_eq_true] at h
  have hl := Nat.le_of_ble_eq_true h.2
  refine ⟨opsOf xs, ?_, by unfold opsOf; rw [List.length_map]; omega, fun o ho => ?_⟩
  · unfold os opsOf
    rw [List.map_map]
    conv => lhs; rw [← List.map_id xs]
    exact List.map_congr_left fun x hx => (isOp_ok (h.1 x hx)).1
  · obtain ⟨x, hx, rfl⟩ := List.mem_map.1 ho
    exact (isOp_ok (h.1 x hx)).2
def extC (f : Nat) (ts : List T) : Ans := match Nat.beq f 16 with
  | true => match ts with
    | [.str t] => match Nat.ble t.size 1000 with
      | true => .yes (parT t.data.toList)
      | false => .no
    | _ => .no
  | false => match Nat.beq f 28 with
    | true => match ts with
      | [.list 4 xs] => match isOB xs with
        | true => .yes (.str (cPrint (opsOf xs)))
        | false => .no
      | [.nils] => .yes (.str ⟨#[45]⟩)
      | _ => .no
    | false => match Nat.beq f 26 with
      | true => match ts with
        | [.agg [.int .i64 k, .int .i64 r, .int .i64 a, .int .i64 s]] => .yes (.str (cTxt ⟨k, r, a, s⟩))
        | _ => .no
      | false => match Nat.beq f 22 with
        | true => match ts with
          | [.list 4 xs, .int .i64 n, .int .i64 m] => match isOB xs with
            | true => .yes (.bool (cFits (opsOf xs) n m))
            | false => .no
          | _ => .no
        | false => match Nat.beq f 20 with
          | true => match ts with
            | [.agg [.int .i64 k, .int .i64 r, .int .i64 a, .int .i64 s], .int .i64 n, .int .i64 m] => .yes (.bool (cRight ⟨k, r, a, s⟩ n m))
            | _ => .no
          | false => match Nat.beq f 24 with
            | true => match ts with
              | [.list 4 xs] => match isOB xs with
                | true => .yes (.int .i64 (cWrites (opsOf xs)))
                | false => .no
              | _ => .no
            | false => .no
theorem extC_ok : ExtOk Tryd.prog tgl extC := by
  refine ⟨fun f vs x h0 => ?_, fun f vs p d sz xs h hp => ?_, fun f vs p d x h hp => ?_⟩
  · have h : extC f vs = .yes x := by
      rcases h0 with h | ⟨p, d, h, _⟩
      · exact h
      · exfalso
        unfold extC at h
        repeat' (split at h)
        all_goals cases h
    clear h0
    unfold extC at h
    split at h
    · rename_i hf
      obtain rfl := Nat.eq_of_beq_eq_true hf
      split at h
      · split at h
        · rename_i hd
          cases h
          exact ok16 _ (Nat.le_trans (Nat.le_of_ble_eq_true hd) (by decide))
        · cases h
      · cases h
    · split at h
      · rename_i hf
        obtain rfl := Nat.eq_of_beq_eq_true hf
        split at h
        · split at h
          · rename_i hd
            cases h
            exact ok28 _ (isOB_ok hd)
          · cases h
        · cases h
          exact ok28_2
        · cases h
      · split at h
        · rename_i hf
          obtain rfl := Nat.eq_of_beq_eq_true hf
          split at h
          · cases h
            exact ok26 _ _ _ _
          · cases h
        · split at h
          · rename_i hf
            obtain rfl := Nat.eq_of_beq_eq_true hf
            split at h
            · split at h
              · rename_i hd
                cases h
                exact ok22 _ _ _ (isOB_ok hd)
              · cases h
            · cases h
          · split at h
            · rename_i hf
              obtain rfl := Nat.eq_of_beq_eq_true hf
              split at h
              · cases h
                exact ok20 _ _ _ _ _ _
              · cases h
            · split at h
              · rename_i hf
                obtain rfl := Nat.eq_of_beq_eq_true hf
                split at h
                · split at h
                  · rename_i hd
                    cases h
                    exact ok24 _ (isOB_ok hd)
                  · cases h
                · cases h
              · cases h
  · exfalso
    unfold extC at h
    repeat' (split at h)
    all_goals cases h
  · exfalso
    unfold extC at h
    repeat' (split at h)
    all_goals cases h
noncomputable def tabC : List (Nat × Nat × MFn) := [(15, 0, m15)]
theorem tabC_ok : ∀ p ∈ tabC, ∃ fn, Tryd.prog.funcs[p.1]? = some fn ∧ lowFn Tryd.prog fn = some p.2.2 := (tab_cons ⟨_, Tryd.func15, low15⟩ tab_nil)
theorem ok15 : FnOk Tryd.prog tgl 15 [] (.bool true) := ev_ok (ext := extC) (tab := tabC) (fuel := 3000) (d := 40) extC_ok tabC_ok (by kernel_rfl)
open Classical in
noncomputable def c15 : List T → Ans
  | [] => .yes (.bool true)
  | _ => .no
theorem got15 {vs : List T} {x : T} (h : Got (c15 vs) x) : FnOk Tryd.prog tgl 15 vs x := by
  unfold c15 at h
  split at h
  · rw [got_yes h]; exact ok15
  · exact (got_no h).elim
theorem nogl15 (vs : List T) (p : Prop) (d : Decidable p) (sz : Nat) (xs : List T) (h : c15 vs = @Ans.gl p d sz xs) : False := by
  unfold c15 at h
  split at h <;> cases h
theorem pk15 (vs : List T) (p : Prop) (d : Decidable p) (x : T) (h : c15 vs = @Ans.pk p d x) (hp : p) : FnOk Tryd.prog tgl 15 vs x := by
  unfold c15 at h
  split at h <;> cases h
end Go.Nx
end
section
set_option linter.unusedVariables false
set_option linter.unusedSimpArgs false
set_option maxRecDepth 20000
set_option maxHeartbeats 4000000
namespace Go.Nx
open Go Go.RowKit Go.Proofs

noncomputable def lK17 : List (Nat × (List T → Ans)) := (30, c30) :: (19, c19) :: (15, c15) :: (16, c16) :: (17, c17) :: (28, c28) :: (29, c29) :: (22, c22) :: (23, c23) :: (24, c24) :: (25, c25) :: lK16
noncomputable def iK17 : List (Nat × Pt) := iK16
noncomputable abbrev K17 : Env := En tgl lK17 iK17
theorem env_K17 : EnvOk Tryd.prog K17 := (env_fn (env_fn (env_fn (env_fn (env_fn (env_fn (env_fn (env_fn (env_fn (env_fn (env_fn env_K16 (fun _ _ => got25) (fun vs p d sz xs h _ => (nogl25 vs p d sz xs h).elim) pk25) (fun _ _ => got24) (fun vs p d sz xs h _ => (nogl24 vs p d sz xs h).elim) pk24) (fun _ _ => got23) (fun vs p d sz xs h _ => (nogl23 vs p d sz xs h).elim) pk23) (fun _ _ => got22) (fun vs p d sz xs h _ => (nogl22 vs p d sz xs h).elim) pk22) (fun _ _ => got29) (fun vs p d sz xs h _ => (nogl29 vs p d sz xs h).elim) pk29) (fun _ _ => got28) (fun vs p d sz xs h _ => (nogl28 vs p d sz xs h).elim) pk28) (fun _ _ => got17) (fun vs p d sz xs h _ => (nogl17 vs p d sz xs h).elim) pk17) (fun _ _ => got16) (fun vs p d sz xs h _ => (nogl16 vs p d sz xs h).elim) pk16) (fun _ _ => got15) (fun vs p d sz xs h _ => (nogl15 vs p d sz xs h).elim) pk15) (fun _ _ => got19) (fun vs p d sz xs h _ => (nogl19 vs p d sz xs h).elim) pk19) (fun _ _ => got30) (fun vs p d sz xs h _ => (nogl30 vs p d sz xs h).elim) pk30)
theorem eqB_selfK (a : Bool) : eqB a a = true := by unfold eqB; cases a <;> rfl
theorem eqI_lit (a : Int) : eqI a a = true := by rw [eqI_def]; exact beq_self_eq_true a
theorem bool_lit (a : Int) : T.bool (eqI a a) = T.bool true := congrArg T.bool (eqI_lit a)
theorem fits_nil (n m : Int) : cFits [] n m = true := by unfold cFits; rfl
theorem par_right {t : List UInt8} (h : (cParse t).2 = 0) : cFits (cParse t).1 4 4 = true ∧ cP (cParse t).1 = t := by
  unfold cParse at h ⊢
  split
  · rename_i e; exact ⟨fits_nil _ _, by rw [e]; rfl⟩
  · rename_i e
    rw [if_neg e] at h
    cases ho : opsO t with
    | none => rw [ho] at h; cases h
    | some l =>
      rw [ho] at h
      dsimp only at h ⊢
      obtain ⟨h1, h2, h3⟩ := opsO_iff.1 ho
      split
      · rename_i h4
        refine ⟨?_, h3⟩
        unfold cFits
        rw [decide_eq_true h4, Bool.true_and, List.all_eq_true]
        exact fun o ho => by rw [cRight_44]; exact h2 o ho
      · rename_i h4
        rw [if_neg h4] at h; cases h
theorem par_err (t : List UInt8) : (cParse t).2 = 0 ∨ ((cParse t).1 = [] ∧ ((cParse t).2 = 2 ∨ (cParse t).2 = 3)) := by
  unfold cParse
  split
  · exact .inl rfl
  · split
    · split
      · exact .inl rfl
      · exact .inr ⟨rfl, .inr rfl⟩
    · exact .inr ⟨rfl, .inl rfl⟩
theorem par_I (t : ByteArray) (ht : t.size ≤ 1048576) : IsO (os (cParse t.data.toList).1) := by
  refine ⟨_, rfl, ?_, fun o ho => ?_⟩
  · unfold cParse
    split
    · decide
    · split
      · split
        · dsimp only; omega
        · decide
      · decide
  · unfold cParse at ho
    split at ho
    · cases ho
    · split at ho
      · rename_i l hl
        split at ho
        · have := (opsO_iff.1 hl).2.1 o ho
          obtain ⟨h1, h2, h3, h4⟩ := cOk_range (cR4_iff.1 this)
          unfold OpI I64
          omega
        · cases ho
      · cases ho
theorem ok5 (s : ByteArray) (hq : s.size ≤ 1048576) : FnOk Tryd.prog tgl 5 [.str s] (.bool true) := by
  refine fn_ok (Γ := K17) env_K17 Tryd.func5 low5 ?_
  have hI := par_I s hq
  rcases par_err s.data.toList with h0 | ⟨hn, h⟩
  · obtain ⟨h1, h2⟩ := par_right h0
    have hf : cFits (opsOf (os (cParse s.data.toList).1)) 4 4 = true := by rw [opsOf_os]; exact h1
    have hs : eqS (cPrint (opsOf (os (cParse s.data.toList).1))) s = true := by rw [opsOf_os, eqS_iff]; unfold cPrint; rw [h2]
    conv => whnf
    repeat' (first
      | (refine brK_true rfl ?_; conv => whnf)
      | (refine brK_false rfl ?_; conv => whnf)
      | (refine brK_true (by assumption) ?_; conv => whnf)
      | (refine brK_false (by assumption) ?_; conv => whnf)
      | (refine brK_true ?_ ?_; (focus (simp only [List.length_nil, fx, h0] <;> omega)); conv => whnf)
      | (refine brK_false ?_ ?_; (focus (simp only [List.length_nil, fx, h0] <;> omega)); conv => whnf)
      | ((refine brK_of (fun h => ?_) (fun h => ?_)) <;> (have h2 := h; (try simp only [List.length_nil, fx, h0] at h2); conv => whnf))
      | (refine reqK_of ?_ ?_; (focus (first | decide | omega | assumption | (simp only [List.length_nil, fx, h0] <;> omega) | (simp [keyNew, sameKey, kEq] <;> omega))); conv => whnf)
      | (refine reqK_of ?_ ?_; rotate_left; (conv => whnf); rotate_left)
      | (refine nth_us ?_ ?_ ?_; (focus (first | omega | (simp only [List.length_nil, fx, h0] <;> omega))); (focus (first | omega | (simp only [List.length_nil, fx, h0] <;> omega))); conv => whnf)
      | (refine nth_is ?_ ?_ ?_; (focus (first | omega | (simp only [List.length_nil, fx, h0] <;> omega))); (focus (first | omega | (simp only [List.length_nil, fx, h0] <;> omega))); conv => whnf)
      | (refine nth_bs ?_ ?_ ?_; (focus (first | omega | (simp only [List.length_nil, fx, h0] <;> omega))); (focus (first | omega | (simp only [List.length_nil, fx, h0] <;> omega))); conv => whnf))
    all_goals first
      | exact congrArg T.bool hs
      | exact hs
      | (exfalso; omega)
  · have hz : (os (cParse s.data.toList).1).length = 0 := by rw [hn]; rfl
    conv => whnf
    repeat' (first
      | (refine brK_true rfl ?_; conv => whnf)
      | (refine brK_false rfl ?_; conv => whnf)
      | (refine brK_true (by assumption) ?_; conv => whnf)
      | (refine brK_false (by assumption) ?_; conv => whnf)
      | (refine brK_true ?_ ?_; (focus (simp only [List.length_nil, fx, hz] <;> omega)); conv => whnf)
      | (refine brK_false ?_ ?_; (focus (simp only [List.length_nil, fx, hz] <;> omega)); conv => whnf)
      | ((refine brK_of (fun h => ?_) (fun h => ?_)) <;> (have h2 := h; (try simp only [List.length_nil, fx, hz] at h2); conv => whnf))
      | (refine reqK_of ?_ ?_; (focus (first | decide | omega | assumption | (simp only [List.length_nil, fx, hz] <;> omega) | (simp [keyNew, sameKey, kEq] <;> omega))); conv => whnf)
      | (refine reqK_of ?_ ?_; rotate_left; (conv => whnf); rotate_left)
      | (refine nth_us ?_ ?_ ?_; (focus (first | omega | (simp only [List.length_nil, fx, hz] <;> omega))); (focus (first | omega | (simp only [List.length_nil, fx, hz] <;> omega))); conv => whnf)
      | (refine nth_is ?_ ?_ ?_; (focus (first | omega | (simp only [List.length_nil, fx, hz] <;> omega))); (focus (first | omega | (simp only [List.length_nil, fx, hz] <;> omega))); conv => whnf)
      | (refine nth_bs ?_ ?_ ?_; (focus (first | omega | (simp only [List.length_nil, fx, hz] <;> omega))); (focus (first | omega | (simp only [List.length_nil, fx, hz] <;> omega))); conv => whnf))
    all_goals first
      | (exfalso; omega)
      | (rw [show (cParse s.data.toList).2 = 3 by omega]; exact bool_lit _)
open Classical in
noncomputable def c5 : List T → Ans
  | [.str s] => .req (s.size ≤ 1048576) (.bool true)
  | _ => .no
theorem got5 {vs : List T} {x : T} (h : Got (c5 vs) x) : FnOk Tryd.prog tgl 5 vs x := by
  unfold c5 at h
  split at h
  · obtain ⟨hq, e⟩ := got_req h; rw [e]; exact ok5 _ hq
  · exact (got_no h).elim
theorem nogl5 (vs : List T) (p : Prop) (d : Decidable p) (sz : Nat) (xs : List T) (h : c5 vs = @Ans.gl p d sz xs) : False := by
  unfold c5 at h
  split at h <;> cases h
theorem pk5 (vs : List T) (p : Prop) (d : Decidable p) (x : T) (h : c5 vs = @Ans.pk p d x) (hp : p) : FnOk Tryd.prog tgl 5 vs x := by
  unfold c5 at h
  split at h
  · cases h
  · cases h
theorem ok8 (xs ys : List T) (hq : (IsO xs ∧ xs.length ≤ 1048576) ∧ IsO ys ∧ ys.length ≤ 1048576) : FnOk Tryd.prog tgl 8 [.list 4 xs, .list 4 ys] (.bool true) := by
  refine fn_ok (Γ := K17) env_K17 Tryd.func8 low8 ?_
  obtain ⟨⟨⟨l, rfl, _, hL⟩, hl⟩, ⟨m, rfl, _, hM⟩, hm⟩ := hq
  rw [os_len] at hl hm
  have hq1 : IsO (os l) := ⟨l, rfl, by omega, hL⟩
  have hq2 : IsO (os m) := ⟨m, rfl, by omega, hM⟩
  have hw := wr_le l
  have hw2 := wr_le m
  have hww : IntKind.i64.wrap (cWrites l + cWrites m) = cWrites l + cWrites m := wrap_i64 ⟨by omega, by omega⟩
  have hap : subL (os l ++ os m) 0 none = os (l ++ m) := by rw [subL_00]; unfold os; rw [List.map_append]
  have hap2 : cWrites (opsOf (subL (os l ++ os m) 0 none)) = cWrites l + cWrites m := by rw [hap, opsOf_os, wr_app]
  conv => whnf
  repeat' (first
    | (refine brK_true rfl ?_; conv => whnf)
    | (refine brK_false rfl ?_; conv => whnf)
    | (refine brK_true (by assumption) ?_; conv => whnf)
    | (refine brK_false (by assumption) ?_; conv => whnf)
    | (refine brK_true ?_ ?_; (focus (simp only [List.length_nil, fx, os_len, opsOf_os, hap2, hww] <;> omega)); conv => whnf)
    | (refine brK_false ?_ ?_; (focus (simp only [List.length_nil, fx, os_len, opsOf_os, hap2, hww] <;> omega)); conv => whnf)
    | ((refine brK_of (fun h => ?_) (fun h => ?_)) <;> (have h2 := h; (try simp only [List.length_nil, fx, os_len, opsOf_os, hap2, hww] at h2); conv => whnf))
    | (refine reqK_of ?_ ?_; (focus (first | decide | omega | assumption | (simp only [List.length_nil, fx, os_len, opsOf_os, hap2, hww] <;> omega) | (simp [keyNew, sameKey, kEq] <;> omega))); conv => whnf)
    | (refine reqK_of ?_ ?_; rotate_left; (conv => whnf); rotate_left)
    | (refine nth_us ?_ ?_ ?_; (focus (first | omega | (simp only [List.length_nil, fx, os_len, opsOf_os, hap2, hww] <;> omega))); (focus (first | omega | (simp only [List.length_nil, fx, os_len, opsOf_os, hap2, hww] <;> omega))); conv => whnf)
    | (refine nth_is ?_ ?_ ?_; (focus (first | omega | (simp only [List.length_nil, fx, os_len, opsOf_os, hap2, hww] <;> omega))); (focus (first | omega | (simp only [List.length_nil, fx, os_len, opsOf_os, hap2, hww] <;> omega))); conv => whnf)
    | (refine nth_bs ?_ ?_ ?_; (focus (first | omega | (simp only [List.length_nil, fx, os_len, opsOf_os, hap2, hww] <;> omega))); (focus (first | omega | (simp only [List.length_nil, fx, os_len, opsOf_os, hap2, hww] <;> omega))); conv => whnf))
  all_goals first
    | (rw [os_len]; unfold maxBytes; omega)
    | (rw [os_len, os_len]; unfold maxBytes; omega)
    | (rw [hap]
       refine ⟨_, rfl, by rw [List.length_append]; omega, fun o ho => ?_⟩
       rcases List.mem_append.1 ho with h | h
       · exact hL o h
       · exact hM o h)
    | (rw [opsOf_os, leI_def, os_len]; exact congrArg T.bool (decide_eq_true hw.2))
    | (exfalso; omega)
    | skip
open Classical in
noncomputable def c8 : List T → Ans
  | [.list 4 xs, .list 4 ys] => .req ((IsO xs ∧ xs.length ≤ 1048576) ∧ IsO ys ∧ ys.length ≤ 1048576) (.bool true)
  | _ => .no
theorem got8 {vs : List T} {x : T} (h : Got (c8 vs) x) : FnOk Tryd.prog tgl 8 vs x := by
  unfold c8 at h
  split at h
  · obtain ⟨hq, e⟩ := got_req h; rw [e]; exact ok8 _ _ hq
  · exact (got_no h).elim
theorem nogl8 (vs : List T) (p : Prop) (d : Decidable p) (sz : Nat) (xs : List T) (h : c8 vs = @Ans.gl p d sz xs) : False := by
  unfold c8 at h
  split at h <;> cases h
theorem pk8 (vs : List T) (p : Prop) (d : Decidable p) (x : T) (h : c8 vs = @Ans.pk p d x) (hp : p) : FnOk Tryd.prog tgl 8 vs x := by
  unfold c8 at h
  split at h
  · cases h
  · cases h
theorem right_mono {o : COp} {n m n' m' : Int} (hn : minI n 4 ≤ minI n' 4) (hm : minI m 4 ≤ minI m' 4) (h : cRight o n m = true) : cRight o n' m' = true := by
  unfold cRight at h ⊢
  have := of_decide_eq_true h
  refine decide_eq_true ?_
  unfold cOk at this ⊢
  omega
theorem fits_mono {l : List COp} {n m n' m' : Int} (hn : minI n 4 ≤ minI n' 4) (hm : minI m 4 ≤ minI m' 4) (h : cFits l n m = true) : cFits l n' m' = true := by
  unfold cFits at h ⊢
  rw [Bool.and_eq_true, List.all_eq_true] at h ⊢
  exact ⟨h.1, fun o ho => right_mono hn hm (h.2 o ho)⟩
theorem minI_le {a b : Int} (h : a ≤ b) : minI a 4 ≤ minI b 4 := by rw [minI_def, minI_def]; split <;> split <;> omega
theorem fits_49 (l : List COp) : cFits l 4 4 = cFits l 9 9 := by
  unfold cFits cRight
  rw [minI_44, show minI 9 4 = 4 by rw [minI_def]; rfl]
def firstFit (l : List COp) (n m : Int) (k : Nat) : Bool := decide (l.length ≤ 64) && (l.take k).all fun o => cRight o n m
theorem ff_snoc {l : List COp} {n m : Int} {k : Nat} (h : k < l.length) : firstFit l n m (k + 1) = (firstFit l n m k && cRight (atO l (k : Int)) n m) := by
  unfold firstFit
  rw [List.take_add_one, atO_at h, List.getElem?_eq_getElem h, Option.toList_some, List.all_append, List.all_cons, List.all_nil, Bool.and_true, Bool.and_assoc]
def U8' (a : Int) : Prop := 0 ≤ a ∧ a < 256
theorem ok7 (xs : List T) (n m : Int) (hq : IsO xs ∧ U8' n ∧ U8' m) : FnOk Tryd.prog tgl 7 [.list 4 xs, .int .u8 n, .int .u8 m] (.bool true) := by
  refine fn_ok (Γ := K17) env_K17 Tryd.func7 low7 ?_
  obtain ⟨⟨l, rfl, hl, hL⟩, hn, hm⟩ := hq
  have hq1 : IsO (os l) := ⟨l, rfl, hl, hL⟩
  unfold U8' at hn hm
  have hwn : IntKind.i64.wrap (n.tmod 6) = n.tmod 6 := wrap_i64 ⟨by have := Int.tmod_nonneg 6 hn.1; omega, by have := Int.tmod_lt_of_pos n (show (0 : Int) < 6 by decide); omega⟩
  have hwm : IntKind.i64.wrap (m.tmod 6) = m.tmod 6 := wrap_i64 ⟨by have := Int.tmod_nonneg 6 hm.1; omega, by have := Int.tmod_lt_of_pos m (show (0 : Int) < 6 by decide); omega⟩
  conv => whnf
  repeat' (first
    | (refine brK_true rfl ?_; conv => whnf)
    | (refine brK_false rfl ?_; conv => whnf)
    | (refine brK_true (by assumption) ?_; conv => whnf)
    | (refine brK_false (by assumption) ?_; conv => whnf)
    | (refine brK_true ?_ ?_; (focus (simp only [List.length_nil, fx, os_len, opsOf_os] <;> omega)); conv => whnf)
    | (refine brK_false ?_ ?_; (focus (simp only [List.length_nil, fx, os_len, opsOf_os] <;> omega)); conv => whnf)
    | ((refine brK_of (fun h => ?_) (fun h => ?_)) <;> (have h2 := h; (try simp only [List.length_nil, fx, os_len, opsOf_os] at h2); conv => whnf))
    | (refine reqK_of ?_ ?_; (focus (first | decide | omega | assumption | (simp only [List.length_nil, fx, os_len, opsOf_os] <;> omega) | (simp [keyNew, sameKey, kEq] <;> omega))); conv => whnf)
    | (refine reqK_of ?_ ?_; rotate_left; (conv => whnf); rotate_left)
    | (refine nth_us ?_ ?_ ?_; (focus (first | omega | (simp only [List.length_nil, fx, os_len, opsOf_os] <;> omega))); (focus (first | omega | (simp only [List.length_nil, fx, os_len, opsOf_os] <;> omega))); conv => whnf)
    | (refine nth_is ?_ ?_ ?_; (focus (first | omega | (simp only [List.length_nil, fx, os_len, opsOf_os] <;> omega))); (focus (first | omega | (simp only [List.length_nil, fx, os_len, opsOf_os] <;> omega))); conv => whnf)
    | (refine nth_bs ?_ ?_ ?_; (focus (first | omega | (simp only [List.length_nil, fx, os_len, opsOf_os] <;> omega))); (focus (first | omega | (simp only [List.length_nil, fx, os_len, opsOf_os] <;> omega))); conv => whnf))
  refine loopUp [] [.kill 25, .kill 26, .kill 27, .kill 28, .kill 29, .kill 30, .kill 31, .kill 32, .kill 33, .kill 34, .kill 35, .kill 36, .kill 37, .kill 38, .kill 39, .kill 40] (fun k : Nat => [(11, .t (.int .i64 (k : Int))), (10, .t (.bool (firstFit l (IntKind.i64.wrap (n.tmod 6)) (IntKind.i64.wrap (m.tmod 6)) k)))]) (fun _ => []) (fun k => k ≤ l.length) (fun k => l.length - k) 0 (Nat.zero_le _) ?_
  conv => whnf
  refine ⟨⟨by rw [show firstFit l (IntKind.i64.wrap (n.tmod 6)) (IntKind.i64.wrap (m.tmod 6)) 0 = leI ((os l).length : Nat) 64 by unfold firstFit; rw [leI_def, os_len, List.take_zero, List.all_nil, Bool.and_true]; exact decide_eq_decide.2 (by omega)]; rfl, rfl⟩, fun k hk C hC => ?_⟩
  have hw : IntKind.i64.wrap ((k : Int) + 1) = (k : Int) + 1 := wrap_i64 ⟨by omega, by omega⟩
  have hs := ff_snoc (l := l) (n := IntKind.i64.wrap (n.tmod 6)) (m := IntKind.i64.wrap (m.tmod 6)) (k := k)
  have hff : firstFit l (IntKind.i64.wrap (n.tmod 6)) (IntKind.i64.wrap (m.tmod 6)) l.length = cFits l (IntKind.i64.wrap (n.tmod 6)) (IntKind.i64.wrap (m.tmod 6)) := by unfold firstFit cFits; rw [List.take_length]
  have w1 : IntKind.i64.wrap (IntKind.i64.wrap (n.tmod 6) + 1) = n.tmod 6 + 1 := by rw [hwn]; exact wrap_i64 ⟨by have := Int.tmod_nonneg 6 hn.1; omega, by have := Int.tmod_lt_of_pos n (show (0 : Int) < 6 by decide); omega⟩
  have w2 : IntKind.i64.wrap (IntKind.i64.wrap (m.tmod 6) + 1) = m.tmod 6 + 1 := by rw [hwm]; exact wrap_i64 ⟨by have := Int.tmod_nonneg 6 hm.1; omega, by have := Int.tmod_lt_of_pos m (show (0 : Int) < 6 by decide); omega⟩
  have g1 : cFits (opsOf (os l)) (IntKind.i64.wrap (n.tmod 6)) (IntKind.i64.wrap (m.tmod 6)) = true → cFits (opsOf (os l)) (IntKind.i64.wrap (IntKind.i64.wrap (n.tmod 6) + 1)) (IntKind.i64.wrap (m.tmod 6)) = true := fun h => by
    rw [opsOf_os] at h ⊢
    exact fits_mono (minI_le (by rw [w1, hwn]; omega)) (Int.le_refl _) h
  have g2 : cFits (opsOf (os l)) (IntKind.i64.wrap (n.tmod 6)) (IntKind.i64.wrap (m.tmod 6)) = true → cFits (opsOf (os l)) (IntKind.i64.wrap (n.tmod 6)) (IntKind.i64.wrap (IntKind.i64.wrap (m.tmod 6) + 1)) = true := fun h => by
    rw [opsOf_os] at h ⊢
    exact fits_mono (Int.le_refl _) (minI_le (by rw [w2, hwm]; omega)) h
  by_cases hkl : k < l.length
  · have hs' := hs hkl
    conv => whnf
    repeat' (first
      | (refine brK_true rfl ?_; conv => whnf)
      | (refine brK_false rfl ?_; conv => whnf)
      | (refine brK_true (by assumption) ?_; conv => whnf)
      | (refine brK_false (by assumption) ?_; conv => whnf)
      | (refine brK_true ?_ ?_; (focus (simp only [List.length_nil, fx, os_len] <;> omega)); conv => whnf)
      | (refine brK_false ?_ ?_; (focus (simp only [List.length_nil, fx, os_len] <;> omega)); conv => whnf)
      | ((refine brK_of (fun h => ?_) (fun h => ?_)) <;> (have h2 := h; (try simp only [List.length_nil, fx, os_len] at h2); conv => whnf))
      | (refine reqK_of ?_ ?_; (focus (first | decide | omega | assumption | (simp only [List.length_nil, fx, os_len] <;> omega) | (simp [keyNew, sameKey, kEq] <;> omega))); conv => whnf)
      | (refine reqK_of ?_ ?_; rotate_left; (conv => whnf); rotate_left)
      | (refine nth_os ?_ ?_ ?_; (focus (first | omega | (simp only [List.length_nil, fx, os_len] <;> omega))); (focus (first | omega | (simp only [List.length_nil, fx, os_len] <;> omega))); conv => whnf)
      | (refine nth_us ?_ ?_ ?_; (focus (first | omega | (simp only [List.length_nil, fx, os_len] <;> omega))); (focus (first | omega | (simp only [List.length_nil, fx, os_len] <;> omega))); conv => whnf)
      | (refine nth_is ?_ ?_ ?_; (focus (first | omega | (simp only [List.length_nil, fx, os_len] <;> omega))); (focus (first | omega | (simp only [List.length_nil, fx, os_len] <;> omega))); conv => whnf)
      | (refine nth_bs ?_ ?_ ?_; (focus (first | omega | (simp only [List.length_nil, fx, os_len] <;> omega))); (focus (first | omega | (simp only [List.length_nil, fx, os_len] <;> omega))); conv => whnf))
    all_goals first
      | (refine loopC (hC (k + 1) (by omega) (by omega)) ?_
         rw [hs', hw, Int.natCast_succ]
         first
           | (rw [show firstFit l (IntKind.i64.wrap (n.tmod 6)) (IntKind.i64.wrap (m.tmod 6)) k = true by assumption, Bool.true_and]; rfl)
           | (rw [show firstFit l (IntKind.i64.wrap (n.tmod 6)) (IntKind.i64.wrap (m.tmod 6)) k = false by assumption, Bool.false_and]; rfl))
      | skip
  · obtain rfl : k = l.length := by omega
    rw [hff]
    conv => whnf
    repeat' (first
      | (refine brK_true rfl ?_; conv => whnf)
      | (refine brK_false rfl ?_; conv => whnf)
      | (refine brK_true (by assumption) ?_; conv => whnf)
      | (refine brK_false (by assumption) ?_; conv => whnf)
      | (refine brK_true ?_ ?_; (focus (simp only [List.length_nil, fx, os_len] <;> omega)); conv => whnf)
      | (refine brK_false ?_ ?_; (focus (simp only [List.length_nil, fx, os_len] <;> omega)); conv => whnf)
      | ((refine brK_of (fun h => ?_) (fun h => ?_)) <;> (have h2 := h; (try simp only [List.length_nil, fx, os_len] at h2); conv => whnf))
      | (refine reqK_of ?_ ?_; (focus (first | decide | omega | assumption | (simp only [List.length_nil, fx, os_len] <;> omega) | (simp [keyNew, sameKey, kEq] <;> omega))); conv => whnf)
      | (refine reqK_of ?_ ?_; rotate_left; (conv => whnf); rotate_left)
      | (refine nth_us ?_ ?_ ?_; (focus (first | omega | (simp only [List.length_nil, fx, os_len] <;> omega))); (focus (first | omega | (simp only [List.length_nil, fx, os_len] <;> omega))); conv => whnf)
      | (refine nth_is ?_ ?_ ?_; (focus (first | omega | (simp only [List.length_nil, fx, os_len] <;> omega))); (focus (first | omega | (simp only [List.length_nil, fx, os_len] <;> omega))); conv => whnf)
      | (refine nth_bs ?_ ?_ ?_; (focus (first | omega | (simp only [List.length_nil, fx, os_len] <;> omega))); (focus (first | omega | (simp only [List.length_nil, fx, os_len] <;> omega))); conv => whnf))
    all_goals first
      | exact congrArg T.bool (by rw [opsOf_os, fits_49, eqB_selfK])
      | (exfalso
         have b : cFits (opsOf (os l)) (IntKind.i64.wrap (IntKind.i64.wrap (n.tmod 6) + 1)) (IntKind.i64.wrap (m.tmod 6)) = false := by assumption
         rw [g1 (by assumption)] at b; cases b)
      | (exfalso
         have b : cFits (opsOf (os l)) (IntKind.i64.wrap (n.tmod 6)) (IntKind.i64.wrap (IntKind.i64.wrap (m.tmod 6) + 1)) = false := by assumption
         rw [g2 (by assumption)] at b; cases b)
      | (exfalso
         have b : eqB (cFits (opsOf (os l)) (IntKind.i64.wrap (n.tmod 6)) (IntKind.i64.wrap (m.tmod 6))) (cFits l (IntKind.i64.wrap (n.tmod 6)) (IntKind.i64.wrap (m.tmod 6))) = false := by assumption
         rw [opsOf_os, eqB_selfK] at b; cases b)
open Classical in
noncomputable def c7 : List T → Ans
  | [.list 4 xs, .int .u8 n, .int .u8 m] => .req (IsO xs ∧ U8' n ∧ U8' m) (.bool true)
  | _ => .no
theorem got7 {vs : List T} {x : T} (h : Got (c7 vs) x) : FnOk Tryd.prog tgl 7 vs x := by
  unfold c7 at h
  split at h
  · obtain ⟨hq, e⟩ := got_req h; rw [e]; exact ok7 _ _ _ hq
  · exact (got_no h).elim
theorem nogl7 (vs : List T) (p : Prop) (d : Decidable p) (sz : Nat) (xs : List T) (h : c7 vs = @Ans.gl p d sz xs) : False := by
  unfold c7 at h
  split at h <;> cases h
theorem pk7 (vs : List T) (p : Prop) (d : Decidable p) (x : T) (h : c7 vs = @Ans.pk p d x) (hp : p) : FnOk Tryd.prog tgl 7 vs x := by
  unfold c7 at h
  split at h
  · cases h
  · cases h
end Go.Nx
end
section
set_option linter.unusedVariables false
set_option linter.unusedSimpArgs false
set_option maxRecDepth 20000
set_option maxHeartbeats 4000000
namespace Go.Nx
open Go Go.RowKit Go.Proofs

theorem eq_q (o : COp) : eqS (cTxt o) (⟨#[63]⟩ : ByteArray) = !cR4 o := by
  rw [Bool.eq_iff_iff, eqS_iff, Bool.not_eq_true']
  rw [← cT_q]
  constructor
  · intro h
    have := congrArg (fun x : ByteArray => x.data.toList) h
    simpa [cTxt] using this
  · intro h; rw [cTxt_ba, h]; rfl
theorem txt_eq {o p : COp} (h1 : cR4 o = true) (h2 : cR4 p = true) : eqS (cTxt o) (cTxt p) = decide (o = p) := by
  rw [Bool.eq_iff_iff, eqS_iff, decide_eq_true_eq]
  constructor
  · intro h
    refine cT_inj h1 h2 ?_
    have := congrArg (fun x : ByteArray => x.data.toList) h
    simpa [cTxt] using this
  · intro h; rw [h]
theorem ok6 (a b k r x s : Int) (hq : U8' a ∧ U8' b) : FnOk Tryd.prog tgl 6 [.int .u8 a, .int .u8 b, .agg [.int .i64 k, .int .i64 r, .int .i64 x, .int .i64 s]] (.bool true) := by
  refine fn_ok (Γ := K17) env_K17 Tryd.func6 low6 ?_
  obtain ⟨ha, hb⟩ := hq
  unfold U8' at ha hb
  have hB : IsBs [T.int .u8 a, T.int .u8 b] := ⟨[a, b], rfl, by simp, fun z hz => by
    rcases List.mem_cons.1 hz with rfl | hz
    · exact ha
    · rw [List.mem_singleton] at hz; subst hz; exact hb⟩
  have hlen : (someOps (nums [T.int .u8 a, T.int .u8 b])).length = 2 := rfl
  have e0 : atO (someOps (nums [T.int .u8 a, T.int .u8 b])) 0 = someOp a := rfl
  have e1 : atO (someOps (nums [T.int .u8 a, T.int .u8 b])) 1 = someOp b := rfl
  have ht := txt_eq (some_right ha) (some_right hb)
  have hq := eq_q ⟨k, r, x, s⟩
  have h44 := cRight_44 ⟨k, r, x, s⟩
  have hO := eqO (someOp a) (someOp b)
  conv => whnf
  repeat' (first
    | (refine brK_true rfl ?_; conv => whnf)
    | (refine brK_false rfl ?_; conv => whnf)
    | (refine brK_true (by assumption) ?_; conv => whnf)
    | (refine brK_false (by assumption) ?_; conv => whnf)
    | (refine brK_true ?_ ?_; (focus (simp only [List.length_nil, fx, os_len, hlen, e0, e1] <;> omega)); conv => whnf)
    | (refine brK_false ?_ ?_; (focus (simp only [List.length_nil, fx, os_len, hlen, e0, e1] <;> omega)); conv => whnf)
    | ((refine brK_of (fun h => ?_) (fun h => ?_)) <;> (have h2 := h; (try simp only [List.length_nil, fx, os_len, hlen, e0, e1] at h2); conv => whnf))
    | (refine reqK_of ?_ ?_; (focus (first | decide | omega | assumption | (simp only [List.length_nil, fx, os_len, hlen, e0, e1] <;> omega) | (simp [keyNew, sameKey, kEq] <;> omega))); conv => whnf)
    | (refine reqK_of ?_ ?_; rotate_left; (conv => whnf); rotate_left)
    | (refine nth_os ?_ ?_ ?_; (focus (first | omega | (simp only [List.length_nil, fx, os_len, hlen, e0, e1] <;> omega))); (focus (first | omega | (simp only [List.length_nil, fx, os_len, hlen, e0, e1] <;> omega))); conv => whnf)
    | (refine nth_us ?_ ?_ ?_; (focus (first | omega | (simp only [List.length_nil, fx, os_len, hlen, e0, e1] <;> omega))); (focus (first | omega | (simp only [List.length_nil, fx, os_len, hlen, e0, e1] <;> omega))); conv => whnf)
    | (refine nth_is ?_ ?_ ?_; (focus (first | omega | (simp only [List.length_nil, fx, os_len, hlen, e0, e1] <;> omega))); (focus (first | omega | (simp only [List.length_nil, fx, os_len, hlen, e0, e1] <;> omega))); conv => whnf)
    | (refine nth_bs ?_ ?_ ?_; (focus (first | omega | (simp only [List.length_nil, fx, os_len, hlen, e0, e1] <;> omega))); (focus (first | omega | (simp only [List.length_nil, fx, os_len, hlen, e0, e1] <;> omega))); conv => whnf))
  · rw [hq, h44, eqB_selfK]
  · have h9 : eqB (eqS (cTxt (someOp a)) (cTxt (someOp b))) (eqI (someOp a).k (someOp b).k && (eqI (someOp a).r (someOp b).r && (eqI (someOp a).a (someOp b).a && (eqI (someOp a).s (someOp b).s && true)))) = true := by rw [hO, ht, eqB_selfK]
    exact absurd (h9.symm.trans h2) (by decide)
open Classical in
noncomputable def c6 : List T → Ans
  | [.int .u8 a, .int .u8 b, .agg [.int .i64 k, .int .i64 r, .int .i64 x, .int .i64 s]] => .req (U8' a ∧ U8' b) (.bool true)
  | _ => .no
theorem got6 {vs : List T} {x : T} (h : Got (c6 vs) x) : FnOk Tryd.prog tgl 6 vs x := by
  unfold c6 at h
  split at h
  · obtain ⟨hq, e⟩ := got_req h; rw [e]; exact ok6 _ _ _ _ _ _ hq
  · exact (got_no h).elim
theorem nogl6 (vs : List T) (p : Prop) (d : Decidable p) (sz : Nat) (xs : List T) (h : c6 vs = @Ans.gl p d sz xs) : False := by
  unfold c6 at h
  split at h <;> cases h
theorem pk6 (vs : List T) (p : Prop) (d : Decidable p) (x : T) (h : c6 vs = @Ans.pk p d x) (hp : p) : FnOk Tryd.prog tgl 6 vs x := by
  unfold c6 at h
  split at h
  · cases h
  · cases h
theorem cP_back {p : List COp} (hne : p ≠ []) (hr : ∀ o ∈ p, cR4 o = true) : cP p ≠ [45] ∧ opsO (cP p) = some p := by
  refine ⟨fun h => ?_, opsO_iff.2 ⟨hne, hr, rfl⟩⟩
  have h2 : spl 59 (cP p) = p.map cT := by
    unfold cP
    rw [if_neg hne, spl_jn (by simpa using hne)]
    intro q hq
    obtain ⟨o, _, rfl⟩ := List.mem_map.1 hq
    exact cT_no o
  rw [h] at h2
  match p, hne with
  | o :: r, _ =>
    have h3 : cT o = [45] := by
      have : (spl 59 [45]).head? = some (cT o) := by rw [h2]; rfl
      exact (Option.some.inj (this.symm.trans (show (spl 59 [45]).head? = some [45] by decide))).symm ▸ rfl
    have hro := hr o (by simp)
    unfold cT at h3
    rw [if_pos hro] at h3
    exact (right_no hro).2.1 h3
def backOps (l : List Int) : List COp := someOps (l.take 80)
theorem take_min (l : List Int) : (bs l).take (minI (l.length : Int) 80).toNat = bs (l.take 80) := by
  unfold bs
  rw [← List.map_take]
  congr 1
  rw [minI_def]
  split
  · rfl
  · rename_i h
    rw [Int.toNat_natCast, List.take_of_length_le (Nat.le_refl _), List.take_of_length_le (by omega)]
theorem back_right {l : List Int} (h : ∀ b ∈ l, 0 ≤ b ∧ b < 256) : ∀ o ∈ backOps l, cR4 o = true := fun o ho => by
  unfold backOps someOps at ho
  obtain ⟨b, hb, rfl⟩ := List.mem_map.1 ho
  exact some_right (h b (List.mem_of_mem_take hb))
theorem ok4 (xs : List T) (hq : IsBs xs) : FnOk Tryd.prog tgl 4 [.list 1 xs] (.bool true) := by
  refine fn_ok (Γ := K17) env_K17 Tryd.func4 low4 ?_
  obtain ⟨l, rfl, hl, hL⟩ := hq
  have hr := back_right hL
  have hI : IsO (os (backOps l)) := ⟨_, rfl, by unfold backOps someOps; rw [List.length_map, List.length_take]; omega, fun o ho => by
    obtain ⟨h1, h2, h3, h4⟩ := cOk_range (cR4_iff.1 (hr o ho))
    unfold OpI I64; omega⟩
  have hbl : (backOps l).length ≤ 80 := by unfold backOps someOps; rw [List.length_map, List.length_take]; omega
  have hB : IsBs ((bs l).take (minI (((bs l).length : Nat) : Int) 80).toNat) := by
    rw [bs_len, take_min]
    exact ⟨_, rfl, by rw [List.length_take]; omega, fun b hb => hL b (List.mem_of_mem_take hb)⟩
  have hX : os (someOps (nums ((bs l).take (minI (((bs l).length : Nat) : Int) 80).toNat))) = os (backOps l) := by rw [bs_len, take_min, nums_bs]; rfl
  have hps : (cPrint (opsOf (os (backOps l)))).size ≤ 1048576 := by
    rw [opsOf_os]
    show (ba (cP (backOps l))).size ≤ _
    rw [ba_size]
    unfold cP
    split
    · decide
    · have := ops_le (backOps l); omega
  have hm : 0 ≤ minI (((bs l).length : Nat) : Int) 80 ∧ minI (((bs l).length : Nat) : Int) 80 ≤ ((bs l).length : Nat) := by
    rw [minI_def]; split <;> omega
  have hX' : os (someOps (nums ((bs l).take (minI (l.length : Int) 80).toNat))) = os (backOps l) := by rw [take_min, nums_bs]; rfl
  have hpp : (cPrint (backOps l)).data.toList = cP (backOps l) := rfl
  have hXo : someOps (nums ((bs l).take (minI (((bs l).length : Nat) : Int) 80).toNat)) = backOps l := by rw [bs_len, take_min, nums_bs]; rfl
  have q1 : IsO (os (someOps (nums ((bs l).take (minI (((bs l).length : Nat) : Int) 80).toNat)))) := by rw [hX]; exact hI
  have q2 : (cPrint (opsOf (os (someOps (nums ((bs l).take (minI (((bs l).length : Nat) : Int) 80).toNat)))))).size ≤ 1048576 := by rw [hX]; exact hps
  have hpr : cPrint (opsOf (os (someOps (nums ((bs l).take (minI (((bs l).length : Nat) : Int) 80).toNat))))) = cPrint (backOps l) := by rw [hX, opsOf_os]
  have hfit : (backOps l).length ≤ 64 → cFits (opsOf (os (someOps (nums ((bs l).take (minI (((bs l).length : Nat) : Int) 80).toNat))))) 4 4 = true := fun h => by
    rw [hX, opsOf_os]
    unfold cFits
    rw [decide_eq_true h, Bool.true_and, List.all_eq_true]
    exact fun o ho => by rw [cRight_44]; exact hr o ho
  have key : ((backOps l).length ≤ 64 ∧ cParse (cP (backOps l)) = (backOps l, 0)) ∨ (64 < (backOps l).length ∧ cParse (cP (backOps l)) = ([], 3)) := by
    by_cases hne : backOps l = []
    · refine .inl ⟨by rw [hne]; decide, ?_⟩
      rw [hne]; exact par_dash
    · obtain ⟨h1, h2⟩ := cP_back hne hr
      by_cases h3 : (backOps l).length ≤ 64
      · exact .inl ⟨h3, par_yes h1 h2 h3⟩
      · exact .inr ⟨by omega, par_lim h1 h2 h3⟩
  rcases key with ⟨h64, hc⟩ | ⟨h64, hc⟩
  · have f1 : (cParse (cP (backOps l))).1 = backOps l := by rw [hc]
    have f2 : (cParse (cP (backOps l))).2 = 0 := by rw [hc]
    have hft := hfit h64
    have hft' : cFits (backOps l) 4 4 = true := by rw [hX, opsOf_os] at hft; exact hft
    conv => whnf
    repeat' (first
      | (refine brK_true rfl ?_; conv => whnf)
      | (refine brK_false rfl ?_; conv => whnf)
      | (refine brK_true (by assumption) ?_; conv => whnf)
      | (refine brK_false (by assumption) ?_; conv => whnf)
      | (refine brK_true ?_ ?_; (focus (simp only [List.length_nil, fx, hX', os_len, opsOf_os, hpp, f1, f2, hft'] <;> omega)); conv => whnf)
      | (refine brK_false ?_ ?_; (focus (simp only [List.length_nil, fx, hX', os_len, opsOf_os, hpp, f1, f2, hft'] <;> omega)); conv => whnf)
      | ((refine brK_of (fun h => ?_) (fun h => ?_)) <;> (have h2 := h; (try simp only [List.length_nil, fx, hX', os_len, opsOf_os, hpp, f1, f2, hft'] at h2); conv => whnf))
      | (refine reqK_of ?_ ?_; (focus (first | decide | omega | assumption | (simp only [List.length_nil, fx, hX', os_len, opsOf_os, hpp, f1, f2, hft'] <;> omega) | (simp [keyNew, sameKey, kEq] <;> omega))); conv => whnf)
      | (refine reqK_of ?_ ?_; rotate_left; (conv => whnf); rotate_left)
      | (refine nth_us ?_ ?_ ?_; (focus (first | omega | (simp only [List.length_nil, fx, hX', os_len, opsOf_os, hpp, f1, f2, hft'] <;> omega))); (focus (first | omega | (simp only [List.length_nil, fx, hX', os_len, opsOf_os, hpp, f1, f2, hft'] <;> omega))); conv => whnf)
      | (refine nth_is ?_ ?_ ?_; (focus (first | omega | (simp only [List.length_nil, fx, hX', os_len, opsOf_os, hpp, f1, f2, hft'] <;> omega))); (focus (first | omega | (simp only [List.length_nil, fx, hX', os_len, opsOf_os, hpp, f1, f2, hft'] <;> omega))); conv => whnf)
      | (refine nth_bs ?_ ?_ ?_; (focus (first | omega | (simp only [List.length_nil, fx, hX', os_len, opsOf_os, hpp, f1, f2, hft'] <;> omega))); (focus (first | omega | (simp only [List.length_nil, fx, hX', os_len, opsOf_os, hpp, f1, f2, hft'] <;> omega))); conv => whnf))
    · refine loopUp [] [.kill 50, .kill 51, .kill 52, .kill 53, .kill 54, .kill 55, .kill 56, .kill 57, .kill 58, .kill 59, .kill 60, .kill 61, .kill 62, .kill 63, .kill 64] (fun k : Nat => [(7, .t (.int .i64 (k : Int)))]) (fun _ => []) (fun k => k ≤ (backOps l).length) (fun k => (backOps l).length - k) 0 (Nat.zero_le _) ?_
      conv => whnf
      refine ⟨⟨rfl, rfl⟩, fun k hk C hC => ?_⟩
      have hw : IntKind.i64.wrap ((k : Int) + 1) = (k : Int) + 1 := wrap_i64 ⟨by omega, by omega⟩
      have ha : (cParse (cPrint (opsOf (os (someOps (nums ((bs l).take (minI (((bs l).length : Nat) : Int) 80).toNat)))))).data.toList).1 = backOps l := by rw [hpr, hpp, f1]
      have hln : (cParse (cPrint (opsOf (os (someOps (nums ((bs l).take (minI (l.length : Int) 80).toNat))))) ).data.toList).1.length = (backOps l).length := by rw [hX', opsOf_os, hpp, f1]
      have hln2 : (someOps (nums ((bs l).take (minI (l.length : Int) 80).toNat))).length = (backOps l).length := by rw [take_min, nums_bs]; rfl
      have he := eqO (atO (cParse (cPrint (opsOf (os (someOps (nums ((bs l).take (minI (((bs l).length : Nat) : Int) 80).toNat)))))).data.toList).1 (k : Int)) (atO (someOps (nums ((bs l).take (minI (((bs l).length : Nat) : Int) 80).toNat))) (k : Int))
      rw [show decide (atO (cParse (cPrint (opsOf (os (someOps (nums ((bs l).take (minI (((bs l).length : Nat) : Int) 80).toNat)))))).data.toList).1 (k : Int) = atO (someOps (nums ((bs l).take (minI (((bs l).length : Nat) : Int) 80).toNat))) (k : Int)) = true by rw [ha, hXo]; exact decide_eq_true rfl] at he
      conv => whnf
      repeat' (first
        | (refine brK_true rfl ?_; conv => whnf)
        | (refine brK_false rfl ?_; conv => whnf)
        | (refine brK_true (by assumption) ?_; conv => whnf)
        | (refine brK_false (by assumption) ?_; conv => whnf)
        | (refine brK_true ?_ ?_; (focus (simp only [List.length_nil, fx, hX', os_len, opsOf_os, hpp, f1, f2, hln, hln2] <;> omega)); conv => whnf)
        | (refine brK_false ?_ ?_; (focus (simp only [List.length_nil, fx, hX', os_len, opsOf_os, hpp, f1, f2, hln, hln2] <;> omega)); conv => whnf)
        | ((refine brK_of (fun h => ?_) (fun h => ?_)) <;> (have h2 := h; (try simp only [List.length_nil, fx, hX', os_len, opsOf_os, hpp, f1, f2, hln, hln2] at h2); conv => whnf))
        | (refine reqK_of ?_ ?_; (focus (first | decide | omega | assumption | (simp only [List.length_nil, fx, hX', os_len, opsOf_os, hpp, f1, f2, hln, hln2] <;> omega) | (simp [keyNew, sameKey, kEq] <;> omega))); conv => whnf)
        | (refine reqK_of ?_ ?_; rotate_left; (conv => whnf); rotate_left)
        | (refine nth_os ?_ ?_ ?_; (focus (first | omega | (simp only [List.length_nil, fx, hX', os_len, opsOf_os, hpp, f1, f2, hln, hln2] <;> omega))); (focus (first | omega | (simp only [List.length_nil, fx, hX', os_len, opsOf_os, hpp, f1, f2, hln, hln2] <;> omega))); conv => whnf)
        | (refine nth_us ?_ ?_ ?_; (focus (first | omega | (simp only [List.length_nil, fx, hX', os_len, opsOf_os, hpp, f1, f2, hln, hln2] <;> omega))); (focus (first | omega | (simp only [List.length_nil, fx, hX', os_len, opsOf_os, hpp, f1, f2, hln, hln2] <;> omega))); conv => whnf)
        | (refine nth_is ?_ ?_ ?_; (focus (first | omega | (simp only [List.length_nil, fx, hX', os_len, opsOf_os, hpp, f1, f2, hln, hln2] <;> omega))); (focus (first | omega | (simp only [List.length_nil, fx, hX', os_len, opsOf_os, hpp, f1, f2, hln, hln2] <;> omega))); conv => whnf)
        | (refine nth_bs ?_ ?_ ?_; (focus (first | omega | (simp only [List.length_nil, fx, hX', os_len, opsOf_os, hpp, f1, f2, hln, hln2] <;> omega))); (focus (first | omega | (simp only [List.length_nil, fx, hX', os_len, opsOf_os, hpp, f1, f2, hln, hln2] <;> omega))); conv => whnf))
      all_goals first
        | (refine loopC (hC (k + 1) (by omega) (by omega)) ?_
           rw [hw, Int.natCast_succ]; rfl)
        | (exfalso; rw [he] at h; exact absurd h (by decide))
        | rfl
  · have f1 : (cParse (cP (backOps l))).1 = [] := by rw [hc]
    have f2 : (cParse (cP (backOps l))).2 = 3 := by rw [hc]
    have hz : (os ([] : List COp)).length = 0 := rfl
    conv => whnf
    repeat' (first
      | (refine brK_true rfl ?_; conv => whnf)
      | (refine brK_false rfl ?_; conv => whnf)
      | (refine brK_true (by assumption) ?_; conv => whnf)
      | (refine brK_false (by assumption) ?_; conv => whnf)
      | (refine brK_true ?_ ?_; (focus (simp only [List.length_nil, fx, hX', os_len, opsOf_os, hpp, f1, f2] <;> omega)); conv => whnf)
      | (refine brK_false ?_ ?_; (focus (simp only [List.length_nil, fx, hX', os_len, opsOf_os, hpp, f1, f2] <;> omega)); conv => whnf)
      | ((refine brK_of (fun h => ?_) (fun h => ?_)) <;> (have h2 := h; (try simp only [List.length_nil, fx, hX', os_len, opsOf_os, hpp, f1, f2] at h2); conv => whnf))
      | (refine reqK_of ?_ ?_; (focus (first | decide | omega | assumption | (simp only [List.length_nil, fx, hX', os_len, opsOf_os, hpp, f1, f2] <;> omega) | (simp [keyNew, sameKey, kEq] <;> omega))); conv => whnf)
      | (refine reqK_of ?_ ?_; rotate_left; (conv => whnf); rotate_left)
      | (refine nth_us ?_ ?_ ?_; (focus (first | omega | (simp only [List.length_nil, fx, hX', os_len, opsOf_os, hpp, f1, f2] <;> omega))); (focus (first | omega | (simp only [List.length_nil, fx, hX', os_len, opsOf_os, hpp, f1, f2] <;> omega))); conv => whnf)
      | (refine nth_is ?_ ?_ ?_; (focus (first | omega | (simp only [List.length_nil, fx, hX', os_len, opsOf_os, hpp, f1, f2] <;> omega))); (focus (first | omega | (simp only [List.length_nil, fx, hX', os_len, opsOf_os, hpp, f1, f2] <;> omega))); conv => whnf)
      | (refine nth_bs ?_ ?_ ?_; (focus (first | omega | (simp only [List.length_nil, fx, hX', os_len, opsOf_os, hpp, f1, f2] <;> omega))); (focus (first | omega | (simp only [List.length_nil, fx, hX', os_len, opsOf_os, hpp, f1, f2] <;> omega))); conv => whnf))
    all_goals first
      | (exfalso; omega)
      | (rw [hpr, hpp, f1]; exact bool_lit _)
      | skip
open Classical in
noncomputable def c4 : List T → Ans
  | [.list 1 xs] => .req (IsBs xs) (.bool true)
  | _ => .no
theorem got4 {vs : List T} {x : T} (h : Got (c4 vs) x) : FnOk Tryd.prog tgl 4 vs x := by
  unfold c4 at h
  split at h
  · obtain ⟨hq, e⟩ := got_req h; rw [e]; exact ok4 _ hq
  · exact (got_no h).elim
theorem nogl4 (vs : List T) (p : Prop) (d : Decidable p) (sz : Nat) (xs : List T) (h : c4 vs = @Ans.gl p d sz xs) : False := by
  unfold c4 at h
  split at h <;> cases h
theorem pk4 (vs : List T) (p : Prop) (d : Decidable p) (x : T) (h : c4 vs = @Ans.pk p d x) (hp : p) : FnOk Tryd.prog tgl 4 vs x := by
  unfold c4 at h
  split at h
  · cases h
  · cases h
theorem ok3 (xs : List T) (k r a s n m : Int) (t : ByteArray) (hq : IsO xs ∧ OpI ⟨k, r, a, s⟩ ∧ t.size ≤ 1048576) : FnOk Tryd.prog tgl 3 [.list 4 xs, .agg [.int .i64 k, .int .i64 r, .int .i64 a, .int .i64 s], .int .i64 n, .int .i64 m, .str t] (.bool true) := by
  refine fn_ok (Γ := K17) env_K17 Tryd.func3 low3 ?_
  obtain ⟨⟨l, rfl, hl, hL⟩, hO, ht⟩ := hq
  have q1 : IsO (os l) := ⟨l, rfl, hl, hL⟩
  have q2 : IsO [T.agg [.int .i64 k, .int .i64 r, .int .i64 a, .int .i64 s]] := ⟨[⟨k, r, a, s⟩], rfl, by simp, fun o ho => by rw [List.mem_singleton] at ho; subst ho; exact hO⟩
  have q3 := par_I t ht
  have q4 : IsO (os (cParse t.data.toList).1) ∧ IsO (os (cParse t.data.toList).1) := ⟨q3, q3⟩
  have h1 : decide (opsOf (os (cParse t.data.toList).1) = opsOf (os (cParse t.data.toList).1)) = true := decide_eq_true rfl
  have h2 : eqI (cParse t.data.toList).2 (cParse t.data.toList).2 = true := eqI_lit _
  have h3 : eqB (cRight ⟨k, r, a, s⟩ n m) (cRight ⟨k, r, a, s⟩ n m) = true := eqB_selfK _
  have h4 : eqB (cFits (opsOf (os l)) n m) (cFits (opsOf (os l)) n m) = true := eqB_selfK _
  have h5 : eqI (cWrites (opsOf (os l))) (cWrites (opsOf (os l))) = true := eqI_lit _
  have h6 : eqS (cTxt ⟨k, r, a, s⟩) (cTxt ⟨k, r, a, s⟩) = true := eqS_iff.2 rfl
  have h7 : eqS (cPrint (opsOf (os l))) (cPrint (opsOf (os l))) = true := eqS_iff.2 rfl
  conv => whnf
  repeat' (first
    | (refine brK_true rfl ?_; conv => whnf)
    | (refine brK_false rfl ?_; conv => whnf)
    | (refine brK_true (by assumption) ?_; conv => whnf)
    | (refine brK_false (by assumption) ?_; conv => whnf)
    | (refine brK_true ?_ ?_; (focus (simp only [List.length_nil, fx, os_len] <;> omega)); conv => whnf)
    | (refine brK_false ?_ ?_; (focus (simp only [List.length_nil, fx, os_len] <;> omega)); conv => whnf)
    | ((refine brK_of (fun h => ?_) (fun h => ?_)) <;> (have h2 := h; (try simp only [List.length_nil, fx, os_len] at h2); conv => whnf))
    | (refine reqK_of ?_ ?_; (focus (first | decide | omega | assumption | (simp only [List.length_nil, fx, os_len] <;> omega) | (simp [keyNew, sameKey, kEq] <;> omega))); conv => whnf)
    | (refine reqK_of ?_ ?_; rotate_left; (conv => whnf); rotate_left)
    | (refine nth_us ?_ ?_ ?_; (focus (first | omega | (simp only [List.length_nil, fx, os_len] <;> omega))); (focus (first | omega | (simp only [List.length_nil, fx, os_len] <;> omega))); conv => whnf)
    | (refine nth_is ?_ ?_ ?_; (focus (first | omega | (simp only [List.length_nil, fx, os_len] <;> omega))); (focus (first | omega | (simp only [List.length_nil, fx, os_len] <;> omega))); conv => whnf)
    | (refine nth_bs ?_ ?_ ?_; (focus (first | omega | (simp only [List.length_nil, fx, os_len] <;> omega))); (focus (first | omega | (simp only [List.length_nil, fx, os_len] <;> omega))); conv => whnf))
  refine nthK_of _ (by decide) rfl ?_
  conv => whnf
  repeat' (first
    | (refine brK_true rfl ?_; conv => whnf)
    | (refine brK_false rfl ?_; conv => whnf)
    | (refine brK_true (by assumption) ?_; conv => whnf)
    | (refine brK_false (by assumption) ?_; conv => whnf)
    | (refine brK_true ?_ ?_; (focus (simp only [List.length_nil, fx, os_len] <;> omega)); conv => whnf)
    | (refine brK_false ?_ ?_; (focus (simp only [List.length_nil, fx, os_len] <;> omega)); conv => whnf)
    | ((refine brK_of (fun h => ?_) (fun h => ?_)) <;> (have h2 := h; (try simp only [List.length_nil, fx, os_len] at h2); conv => whnf))
    | (refine reqK_of ?_ ?_; (focus (first | decide | omega | assumption | (simp only [List.length_nil, fx, os_len] <;> omega) | (simp [keyNew, sameKey, kEq] <;> omega))); conv => whnf)
    | (refine reqK_of ?_ ?_; rotate_left; (conv => whnf); rotate_left)
    | (refine nth_us ?_ ?_ ?_; (focus (first | omega | (simp only [List.length_nil, fx, os_len] <;> omega))); (focus (first | omega | (simp only [List.length_nil, fx, os_len] <;> omega))); conv => whnf)
    | (refine nth_is ?_ ?_ ?_; (focus (first | omega | (simp only [List.length_nil, fx, os_len] <;> omega))); (focus (first | omega | (simp only [List.length_nil, fx, os_len] <;> omega))); conv => whnf)
    | (refine nth_bs ?_ ?_ ?_; (focus (first | omega | (simp only [List.length_nil, fx, os_len] <;> omega))); (focus (first | omega | (simp only [List.length_nil, fx, os_len] <;> omega))); conv => whnf))
  all_goals exact congrArg T.bool h7
open Classical in
noncomputable def c3 : List T → Ans
  | [.list 4 xs, .agg [.int .i64 k, .int .i64 r, .int .i64 a, .int .i64 s], .int .i64 n, .int .i64 m, .str t] => .req (IsO xs ∧ OpI ⟨k, r, a, s⟩ ∧ t.size ≤ 1048576) (.bool true)
  | _ => .no
theorem got3 {vs : List T} {x : T} (h : Got (c3 vs) x) : FnOk Tryd.prog tgl 3 vs x := by
  unfold c3 at h
  split at h
  · obtain ⟨hq, e⟩ := got_req h; rw [e]; exact ok3 _ _ _ _ _ _ _ _ hq
  · exact (got_no h).elim
theorem nogl3 (vs : List T) (p : Prop) (d : Decidable p) (sz : Nat) (xs : List T) (h : c3 vs = @Ans.gl p d sz xs) : False := by
  unfold c3 at h
  split at h <;> cases h
theorem pk3 (vs : List T) (p : Prop) (d : Decidable p) (x : T) (h : c3 vs = @Ans.pk p d x) (hp : p) : FnOk Tryd.prog tgl 3 vs x := by
  unfold c3 at h
  split at h
  · cases h
  · cases h
end Go.Nx
end
