/-
  AN EVALUATOR OF CLOSED RUNS: what it answers, the machine does.
-/
import Derived.Test.YtpmpkcjcjccboaaDoorYc
set_option linter.unusedVariables false
namespace Go.Nx
open Go.RowKit

section
variable {R : Type}
def getE {α : Type} : List α → Nat → (α → Option R) → Option R
  | [], _, _ => none
  | x :: _, 0, k => k x
  | _ :: r, n + 1, k => getE r n k
def setE {α : Type} : List α → Nat → α → (List α → Option R) → Option R
  | [], _, _, _ => none
  | _ :: r, 0, v, k => k (v :: r)
  | x :: r, n + 1, v, k => setE r n v fun r' => k (x :: r')
def lkupE (j : Nat) : Own → (Blk → Option R) → Option R
  | [], _ => none
  | p :: r, k => match p with
    | (i, b) => match Nat.beq i j with
      | true => k b
      | false => lkupE j r k
def updE (j : Nat) (b : Blk) : Own → (Own → Option R) → Option R
  | [], _ => none
  | p :: r, k => match p with
    | (i, c) => match Nat.beq i j with
      | true => k ((i, b) :: r)
      | false => updE j b r fun r' => k ((i, c) :: r')
def freshE (j : Nat) : Own → Option R → Option R
  | [], k => k
  | p :: r, k => match p with
    | (i, _) => match Nat.beq i j with
      | true => none
      | false => freshE j r k
def evE (gl : Nat → Option (List T)) (tm : List V) (x : Opd) (k : V → Option R) : Option R := match x with
  | .t i => getE tm i k
  | .k x => k (.t x)
  | .g i => match gl i with
    | some cs => k (.t (.ref cs))
    | none => none
def evsE (gl : Nat → Option (List T)) (tm : List V) : List Opd → (List V → Option R) → Option R
  | [], k => k []
  | x :: r, k => evE gl tm x fun v => evsE gl tm r fun l => k (v :: l)
def putE (st : St) (d : Option Nat) (v : V) (k : St → Option R) : Option R := match d with
  | none => k st
  | some d => match st with
    | ⟨tm, own⟩ => setE tm d v fun tm' => k ⟨tm', own⟩
def tagE : List T → (List V → Option R) → Option R
  | [], k => k []
  | x :: r, k => tagE r fun l => k (.t x :: l)
def lenE {α : Type} : List α → Nat → Option R → Option R
  | [], 0, k => k
  | _ :: r, n + 1, k => lenE r n k
  | _, _, _ => none
def natE (b : Bool) (k : Option R) : Option R := match b with
  | true => k
  | false => none

variable {r : R}
theorem getE_ok {α : Type} {l : List α} {n : Nat} {k : α → Option R} {K : α → Prop} (hk : ∀ x, k x = some r → K x) (h : getE l n k = some r) : getK l n K := by
  induction l generalizing n with
  | nil => cases n <;> cases h
  | cons x l ih => cases n with
    | zero => exact hk _ h
    | succ n => exact ih (n := n) h
theorem setE_ok {α : Type} {v : α} {l : List α} {n : Nat} {k : List α → Option R} {K : List α → Prop} (hk : ∀ x, k x = some r → K x) (h : setE l n v k = some r) : setK l n v K := by
  induction l generalizing n k K with
  | nil => cases n <;> cases h
  | cons x l ih => cases n with
    | zero => exact hk _ h
    | succ n => exact ih (n := n) (k := fun r' => k (x :: r')) (fun y hy => hk _ hy) h
theorem lkupE_ok {j : Nat} {own : Own} {k : Blk → Option R} {K : Blk → Prop} (hk : ∀ x, k x = some r → K x) (h : lkupE j own k = some r) : lkupK j own K := by
  induction own with
  | nil => cases h
  | cons p l ih =>
    obtain ⟨i, b⟩ := p
    simp only [lkupE] at h
    simp only [lkupK]
    split at h
    · rename_i e; rw [e]; exact hk _ h
    · rename_i e; rw [e]; exact ih h
theorem updE_ok {j : Nat} {b : Blk} {own : Own} {k : Own → Option R} {K : Own → Prop} (hk : ∀ x, k x = some r → K x) (h : updE j b own k = some r) : updK j b own K := by
  induction own generalizing k K with
  | nil => cases h
  | cons p l ih =>
    obtain ⟨i, c⟩ := p
    simp only [updE] at h
    simp only [updK]
    split at h
    · rename_i e; rw [e]; exact hk _ h
    · rename_i e; rw [e]; exact ih (k := fun r' => k ((i, c) :: r')) (fun y hy => hk _ hy) h
theorem freshE_ok {j : Nat} {own : Own} {k : Option R} {K : Prop} (hk : k = some r → K) (h : freshE j own k = some r) : freshK j own K := by
  induction own with
  | nil => exact hk h
  | cons p l ih =>
    obtain ⟨i, b⟩ := p
    simp only [freshE] at h
    simp only [freshK]
    split at h
    · cases h
    · rename_i e; rw [e]; exact ih h
theorem evE_ok {Γ : Env} {tm : List V} {x : Opd} {k : V → Option R} {K : V → Prop} (hk : ∀ x, k x = some r → K x) (h : evE Γ.gl tm x k = some r) : evK Γ tm x K := by
  cases x with
  | t i => exact getE_ok hk h
  | k x => exact hk _ h
  | g i =>
    simp only [evE] at h
    simp only [evK]
    split at h
    · rename_i e; rw [e]; exact hk _ h
    · cases h
theorem evsE_ok {Γ : Env} {tm : List V} {xs : List Opd} {k : List V → Option R} {K : List V → Prop} (hk : ∀ x, k x = some r → K x) (h : evsE Γ.gl tm xs k = some r) : evsK Γ tm xs K := by
  induction xs generalizing k K with
  | nil => exact hk _ h
  | cons x xs ih => exact evE_ok (k := fun v => evsE Γ.gl tm xs fun l => k (v :: l)) (fun v hv => ih (k := fun l => k (v :: l)) (fun y hy => hk _ hy) hv) h
theorem putE_ok {st : St} {d : Option Nat} {v : V} {k : St → Option R} {K : St → Prop} (hk : ∀ x, k x = some r → K x) (h : putE st d v k = some r) : putK st d v K := by
  cases d with
  | none => exact hk _ h
  | some d =>
    obtain ⟨tm, own⟩ := st
    exact setE_ok (k := fun tm' => k ⟨tm', own⟩) (fun y hy => hk _ hy) h
theorem tagE_ok {l : List T} {k : List V → Option R} {K : List V → Prop} (hk : ∀ x, k x = some r → K x) (h : tagE l k = some r) : tagK l K := by
  induction l generalizing k K with
  | nil => exact hk _ h
  | cons x l ih => exact ih (k := fun l => k (.t x :: l)) (fun y hy => hk _ hy) h
theorem lenE_ok {α : Type} {l : List α} {n : Nat} {k : Option R} {K : Prop} (hk : k = some r → K) (h : lenE l n k = some r) : lenK l n K := by
  induction l generalizing n with
  | nil => cases n with
    | zero => exact hk h
    | succ n => cases h
  | cons x l ih => cases n with
    | zero => cases h
    | succ n => exact ih (n := n) h
theorem natE_ok {b : Bool} {k : Option R} {K : Prop} (hk : k = some r → K) (h : natE b k = some r) : natK b K := by
  cases b with
  | true => exact hk h
  | false => cases h

/-! steps -/
def nthE (xs : List T) (i : Int) (k : T → Option R) : Option R := match i with
  | .ofNat n => getE xs n k
  | .negSucc _ => none
theorem nthE_ok {xs : List T} {i : Int} {k : T → Option R} {K : T → Prop} (hk : ∀ x, k x = some r → K x) (h : nthE xs i k = some r) : nthK xs i K := by
  cases i with
  | ofNat n =>
    obtain ⟨x, h1, h2⟩ := getK_elim (getE_ok hk h)
    exact nthK_of x (Int.natCast_nonneg n) h1 h2
  | negSucc n => cases h
abbrev RunE (R : Type) := Own → Log → (V → Own → Log → Option R) → Option R
noncomputable def evP (dr : Bool) (p : Pg) : RunE R :=
  Pg.rec (motive := fun _ => RunE R)
    (fun v own log k => k v own log)
    (fun own log k => none)
    (fun j _ ih own log k => lkupE j own fun b => ih b own ((j, false) :: log) k)
    (fun j b _ ih own log k => updE j b own fun own' => ih own' ((j, true) :: log) k)
    (fun j b _ ih own log k => freshE j own (ih ((j, b) :: own) ((j, true) :: log) k))
    (fun c d _ ih own log k => match d with
      | .isTrue _ => ih own log k
      | .isFalse _ => none)
    (fun b _ _ ihp ihq own log k => match b with
      | true => ihp own log k
      | false => ihq own log k)
    (fun xs i _ ih own log k => nthE xs i fun x => ih x own log k)
    (fun c d _ _ ihp ihq own log k => match dr with
      | true => none
      | false => match d with
        | .isTrue _ => none
        | .isFalse _ => ihp own log k) p
theorem evP_ok {dr : Bool} {p : Pg} : ∀ {own : Own} {log : Log} {k : V → Own → Log → Option R} {K : V → Own → Log → Prop}, (∀ v o l, k v o l = some r → K v o l) → evP dr p own log k = some r → run dr p own log K := by
  induction p with
  | ret v => intro own log k K hk h; exact hk _ _ _ h
  | no => intro own log k K hk h; cases h
  | rd j f ih => intro own log k K hk h; rw [run_rd]; exact lkupE_ok (k := fun b => evP dr (f b) own ((j, false) :: log) k) (fun b hb => ih b hk hb) h
  | wr j b p ih => intro own log k K hk h; rw [run_wr]; exact updE_ok (k := fun own' => evP dr p own' ((j, true) :: log) k) (fun b hb => ih hk hb) h
  | new j b p ih => intro own log k K hk h; rw [run_new]; exact freshE_ok (k := evP dr p ((j, b) :: own) ((j, true) :: log) k) (fun hb => ih hk hb) h
  | @req c d p ih =>
    intro own log k K hk h
    rw [run_req]
    cases d with
    | isTrue hc => exact reqK_of hc (ih hk h)
    | isFalse hc => cases (show (none : Option R) = some r from h)
  | br b p q ihp ihq =>
    intro own log k K hk h
    rw [run_br]
    cases b with
    | true => exact brK_true rfl (ihp hk h)
    | false => exact brK_false rfl (ihq hk h)
  | nth xs i f ih => intro own log k K hk h; rw [run_nth]; exact nthE_ok (k := fun x => evP dr (f x) own log k) (fun b hb => ih b hk hb) h
  | @alt c d p q ihp ihq =>
    intro own log k K hk h
    rw [run_alt]
    cases dr with
    | true => cases (show (none : Option R) = some r from h)
    | false => cases d with
      | isTrue hc => cases (show (none : Option R) = some r from h)
      | isFalse hc => exact altK_of (ihp hk h) (fun e => absurd e hc)

/-- what is known to the evaluator -/
structure EnvE where
  fn : Nat → List T → Ans
  gl : Nat → Option (List T)
  isI : Nat → Bool
  pt : Nat → Nat → List V → Own → Option (V × Own)
def calleeE (v : V) (k : Nat → List V → List V → Option R) : Option R := match v with
  | .t (.fn (.func n) first caps) => tagE first fun a => tagE caps fun b => k n a b
  | .fn (.func n) first caps => k n first caps
  | _ => none
theorem calleeE_ok {v : V} {k : Nat → List V → List V → Option R} {K : Nat → List V → List V → Prop} (hk : ∀ n a b, k n a b = some r → K n a b) (h : calleeE v k = some r) : calleeK v K := by
  unfold calleeE at h
  split at h
  · rename_i n first caps
    exact tagE_ok (k := fun a => tagE caps fun b => k n a b) (fun a ha => tagE_ok (k := fun b => k n a b) (fun b hb => hk _ _ _ hb) ha) h
  · exact hk _ _ _ h
  · cases h
def ansOf (x : Option T) : Ans := match x with
  | some x => .yes x
  | none => .no
def pkOf (x : Option T) : Ans := match x with
  | some x => .pk True x
  | none => .no
def EnvE.env (E : EnvE) (base : Nat) (prot : List Nat) : Env := ⟨fun n ts => E.fn n ts, E.gl, base, prot, E.isI, fun n b args own R => ∃ v own', E.pt n b args own = some (v, own') ∧ R v own', fun _ => false⟩
noncomputable def stepE (E : EnvE) (base : Nat) (dr : Bool) (d : Option Nat) (st : St) (op : MK) (k : St → Log → Option R) : Option R := match st with
  | ⟨tm, own⟩ => evsE E.gl tm (opds op) fun vs => match op with
    | .call key _ _ => match vs with
      | [] => none
      | fv :: args => calleeE fv fun n first caps => match inlQ (E.isI n) dr with
        | true => match E.pt n (Nat.mul (keyB base key) 1024) (first ++ (args ++ caps)) own with
          | some (v, own') => putE ⟨tm, own'⟩ d v fun st => k st []
          | none => none
        | false => evP dr (callP (E.fn n) (first ++ (args ++ caps)) (keyB base key)) own [] fun v own' log => putE ⟨tm, own'⟩ d v fun st => k st log
    | op => evP dr (prog base op vs) own [] fun v own' log => putE ⟨tm, own'⟩ d v fun st => k st log
theorem stepE_ok {E : EnvE} {base : Nat} {prot : List Nat} {dr : Bool} {d : Option Nat} {st : St} {op : MK} {k : St → Log → Option R} {K : St → Log → Prop} (hk : ∀ s l, k s l = some r → K s l) (h : stepE E base dr d st op k = some r) :
    stepK (E.env base prot) dr d st op K := by
  obtain ⟨tm, own⟩ := st
  unfold stepE at h
  unfold stepK
  refine evsE_ok (Γ := E.env base prot) (fun vs hv => ?_) h
  have other : ∀ op, evP dr (prog base op vs) own [] (fun v own' log => putE ⟨tm, own'⟩ d v fun st => k st log) = some r → run dr (prog (E.env base prot).base op vs) own [] fun v own' log => putK ⟨tm, own'⟩ d v fun st => K st log :=
    fun op h => evP_ok (fun v o l hl => putE_ok (fun s hs => hk _ _ hs) hl) h
  cases op with
  | call key f as =>
    cases vs with
    | nil => cases hv
    | cons fv args =>
      refine calleeE_ok (k := fun n first caps => _) (fun n first caps hn => ?_) hv
      cases e : inlQ (E.isI n) dr with
      | true =>
        have e' : inlQ ((E.env base prot).isI n) dr = true := e
        rw [e] at hn
        rw [e']
        dsimp only at hn ⊢
        split at hn
        · rename_i v own' h2
          exact ⟨v, own', h2, putE_ok (fun s hs => hk _ _ hs) hn⟩
        · cases hn
      | false =>
        have e' : inlQ ((E.env base prot).isI n) dr = false := e
        have e2 : inlD ((E.env base prot).isI n) ((E.env base prot).isD n) dr = false := by
          show inlD (E.isI n) false dr = false
          cases E.isI n <;> rfl
        rw [e] at hn
        rw [e']
        dsimp only
        rw [e2]
        exact evP_ok (fun v o l hl => putE_ok (fun s hs => hk _ _ hs) hl) hn
  | _ => exact other _ hv

/-! regions, code -/
noncomputable def opsE (E : EnvE) (base : Nat) (ops : List MOp) : St → (St → Option R) → Option R :=
  List.rec (motive := fun _ => St → (St → Option R) → Option R) (fun st k => k st)
    (fun o _ ih st k => match o with
      | ⟨d, op, g⟩ => match g with
        | none => stepE E base false d st op fun st _ => ih st k
        | some p => match p with
          | (t, want) => match st with
            | ⟨tm, own⟩ => getE tm t fun v => match v with
              | .t (.bool b) => match want with
                | true => match b with
                  | true => stepE E base false d ⟨tm, own⟩ op fun st _ => ih st k
                  | false => putE ⟨tm, own⟩ d (.t .undef) fun st => ih st k
                | false => match b with
                  | true => putE ⟨tm, own⟩ d (.t .undef) fun st => ih st k
                  | false => stepE E base false d ⟨tm, own⟩ op fun st _ => ih st k
              | .t (.tup _) => putE ⟨tm, own⟩ d (.t .undef) fun st => ih st k
              | _ => none) ops
theorem opsE_ok {E : EnvE} {base : Nat} {prot : List Nat} {ops : List MOp} : ∀ {st : St} {k : St → Option R} {K : St → Prop}, (∀ s, k s = some r → K s) → opsE E base ops st k = some r → runOps (E.env base prot) ops st K := by
  induction ops with
  | nil => intro st k K hk h; exact hk _ h
  | cons o ops ih =>
    intro st k K hk h
    obtain ⟨d, op, g⟩ := o
    rw [runOps_cons]
    have step : ∀ st, stepE E base false d st op (fun st _ => opsE E base ops st k) = some r → stepK (E.env base prot) false d st op fun st _ => runOps (E.env base prot) ops st K :=
      fun st h => stepE_ok (k := fun st _ => opsE E base ops st k) (fun s l hs => ih hk hs) h
    have put : ∀ st v, putE st d v (fun st => opsE E base ops st k) = some r → putK st d v fun st => runOps (E.env base prot) ops st K :=
      fun st v h => putE_ok (k := fun st => opsE E base ops st k) (fun s hs => ih hk hs) h
    cases g with
    | none => exact step _ h
    | some p =>
      obtain ⟨t, want⟩ := p
      obtain ⟨tm, own⟩ := st
      dsimp only
      refine getE_ok (fun v hv => ?_) h
      dsimp only at hv ⊢
      split at hv
      · cases want with
        | true =>
          dsimp only at hv ⊢
          split at hv
          · exact brK_true rfl (step _ hv)
          · exact brK_false rfl (put _ _ hv)
        | false =>
          dsimp only at hv ⊢
          split at hv
          · exact brK_true rfl (put _ _ hv)
          · exact brK_false rfl (step _ hv)
      · exact put _ _ hv
      · cases hv
noncomputable def dE (E : EnvE) (base : Nat) (ops : List MOp) : St → List Log → (St → List Log → Option R) → Option R :=
  List.rec (motive := fun _ => St → List Log → (St → List Log → Option R) → Option R) (fun st log k => k st (revL log []))
    (fun o _ ih st log k => match o with
      | ⟨d, op, g⟩ => match g with
        | none => stepE E base true d st op fun st ks => ih st (ks :: log) k
        | some p => match p with
          | (t, want) => match st with
            | ⟨tm, own⟩ => getE tm t fun v => match v with
              | .t (.bool b) => match want with
                | true => match b with
                  | true => stepE E base true d ⟨tm, own⟩ op fun st ks => ih st (ks :: log) k
                  | false => putE ⟨tm, own⟩ d (.t .undef) fun st => ih st ([] :: log) k
                | false => match b with
                  | true => putE ⟨tm, own⟩ d (.t .undef) fun st => ih st ([] :: log) k
                  | false => stepE E base true d ⟨tm, own⟩ op fun st ks => ih st (ks :: log) k
              | .t (.tup _) => putE ⟨tm, own⟩ d (.t .undef) fun st => ih st ([] :: log) k
              | _ => none) ops
theorem dE_ok {E : EnvE} {base : Nat} {prot : List Nat} {ops : List MOp} : ∀ {st : St} {log : List Log} {k : St → List Log → Option R} {K : St → List Log → Prop}, (∀ s l, k s l = some r → K s l) → dE E base ops st log k = some r →
    runD (E.env base prot) ops st log K := by
  induction ops with
  | nil => intro st log k K hk h; exact hk _ _ h
  | cons o ops ih =>
    intro st log k K hk h
    obtain ⟨d, op, g⟩ := o
    rw [runD_cons]
    have step : ∀ st, stepE E base true d st op (fun st ks => dE E base ops st (ks :: log) k) = some r → stepK (E.env base prot) true d st op fun st ks => runD (E.env base prot) ops st (ks :: log) K :=
      fun st h => stepE_ok (k := fun st ks => dE E base ops st (ks :: log) k) (fun s l hs => ih hk hs) h
    have put : ∀ st v, putE st d v (fun st => dE E base ops st ([] :: log) k) = some r → putK st d v fun st => runD (E.env base prot) ops st ([] :: log) K :=
      fun st v h => putE_ok (k := fun st => dE E base ops st ([] :: log) k) (fun s hs => ih hk hs) h
    cases g with
    | none => exact step _ h
    | some p =>
      obtain ⟨t, want⟩ := p
      obtain ⟨tm, own⟩ := st
      dsimp only
      refine getE_ok (fun v hv => ?_) h
      dsimp only at hv ⊢
      split at hv
      · cases want with
        | true =>
          dsimp only at hv ⊢
          split at hv
          · exact brK_true rfl (step _ hv)
          · exact brK_false rfl (put _ _ hv)
        | false =>
          dsimp only at hv ⊢
          split at hv
          · exact brK_true rfl (put _ _ hv)
          · exact brK_false rfl (step _ hv)
      · exact put _ _ hv
      · cases hv

/-- new names for what was made in a round -/
def maxKey : Own → Nat → Nat
  | [], m => m
  | p :: r, m => match Nat.ble p.1 m with
    | true => maxKey r m
    | false => maxKey r p.1
def rensOf (prot : List Nat) (lim : Nat) : Own → Nat → List Nz
  | [], _ => []
  | p :: r, f => match Nat.ble lim p.1 with
    | true => rensOf prot lim r f
    | false => match notIn p.1 prot with
      | true => .ren p.1 f :: rensOf prot lim r (Nat.succ f)
      | false => rensOf prot lim r f
def lim : Nat := 1000000000000000000000000000000
def nzOf (prot : List Nat) (st : St) : List Nz := rensOf prot lim st.own (Nat.succ (maxKey st.own lim))
def renE (prot : List Nat) (z : Nz) (st : St) (k : St → Option R) : Option R := match st with
  | ⟨tm, own⟩ => match z with
    | .ren j j0 => natE (notIn j prot) (freshE j0 own (k ⟨renVs j j0 tm, renOwn j j0 own⟩))
    | _ => none
def nzE (prot : List Nat) : List Nz → St → (St → Option R) → Option R
  | [], st, k => k st
  | z :: r, st, k => renE prot z st fun st' => nzE prot r st' k
theorem nzE_ok {prot : List Nat} : ∀ {zs : List Nz} {st : St} {k : St → Option R} {K : St → Prop}, (∀ s, k s = some r → K s) → nzE prot zs st k = some r → nzK prot zs st K
  | [], st, k, K, hk, h => hk _ h
  | z :: zs, st, k, K, hk, h => by
    obtain ⟨tm, own⟩ := st
    simp only [nzE, renE] at h
    simp only [nzK, nz1K]
    split at h
    · exact natE_ok (fun h => freshE_ok (fun h => nzE_ok hk h) h) h
    · cases h
def loopE (prot : List Nat) (W : St → (Ex → St → Option R) → Option R) : Nat → St → (Ex → St → Option R) → Option R
  | 0, _, _ => none
  | n + 1, st, k => W st fun e st' => match e with
    | .normal => nzE prot (nzOf prot st') st' fun s => loopE prot W n s k
    | e => k e st'
open Classical in
theorem loopE_ok {prot : List Nat} {W : St → (Ex → St → Option R) → Option R} {W' : St → (Ex → St → Prop) → Prop} (hW : ∀ st k K, (∀ e s, k e s = some r → K e s) → W st k = some r → W' st K) {n : Nat} {st : St}
    {k : Ex → St → Option R} {K : Ex → St → Prop} (hk : ∀ e s, k e s = some r → K e s) (h : loopE prot W n st k = some r) : loopK prot W' st K := by
  unfold loopK
  let I : St → Prop := fun s => ∃ n, loopE prot W n s k = some r
  have hl : ∀ s, I s → ∃ n, loopE prot W n s k = some r ∧ ∀ m, loopE prot W m s k = some r → n ≤ m := fun s ⟨n, hn⟩ => least_of (Q := fun n => loopE prot W n s k = some r) n hn
  let μ : St → Nat := fun s => if hx : I s then Classical.choose (hl s hx) else 0
  have hμ : ∀ s (hx : I s), loopE prot W (μ s) s k = some r ∧ ∀ m, loopE prot W m s k = some r → μ s ≤ m := fun s hx => by
    simp only [μ, dif_pos hx]; exact Classical.choose_spec (hl s hx)
  refine ⟨[], nzOf prot, I, μ, ⟨n, h⟩, fun s hs => ?_⟩
  obtain ⟨h1, h2⟩ := hμ s hs
  cases hm : μ s with
  | zero => rw [hm] at h1; cases h1
  | succ m =>
    rw [hm] at h1
    refine hW _ _ _ (fun e s' he => ?_) h1
    cases e with
    | normal =>
      refine nzE_ok (fun s2 hs2 => ?_) he
      have hI : I s2 := ⟨m, hs2⟩
      exact ⟨hI, by have := (hμ s2 hI).2 m hs2; omega⟩
    | exit i => exact hk _ _ he
    | ret => exact hk _ _ he
noncomputable def evC (E : EnvE) (base : Nat) (prot : List Nat) (fuel : Nat) (c : MC) : St → (Ex → St → Option R) → Option R :=
  MC.rec (motive := fun _ => St → (Ex → St → Option R) → Option R)
    (fun st k => k .normal st)
    (fun ops dr st k => match dr with
      | none => opsE E base ops st (k .normal)
      | some ps => dE E base ops st [] fun st log => natE (chkPairs log ps) (k .normal st))
    (fun _ _ iha ihb st k => iha st fun e st => match e with
      | .normal => ihb st k
      | e => k e st)
    (fun c _ _ iha ihb st k => match st with
      | ⟨tm, own⟩ => evE E.gl tm c fun v => match v with
        | .t (.bool x) => match x with
          | true => iha ⟨tm, own⟩ k
          | false => ihb ⟨tm, own⟩ k
        | _ => none)
    (fun id _ ih st k => ih st fun e st => match e with
      | .exit j => match Nat.beq j id with
        | true => k .normal st
        | false => k (.exit j) st
      | e => k e st)
    (fun _ ih st k => loopE prot ih fuel st k)
    (fun id st k => k (.exit id) st)
    (fun st k => k .ret st) c
theorem evC_ok {E : EnvE} {base : Nat} {prot : List Nat} {fuel : Nat} {c : MC} : ∀ {st : St} {k : Ex → St → Option R} {K : Ex → St → Prop}, (∀ e s, k e s = some r → K e s) → evC E base prot fuel c st k = some r → wpx (E.env base prot) c st K := by
  induction c with
  | skip => intro st k K hk h; exact hk _ _ h
  | reg ops dr =>
    intro st k K hk h
    rw [wpx_reg]
    cases dr with
    | none => exact opsE_ok (fun s hs => hk _ _ hs) h
    | some ps => exact dE_ok (fun s l hs => natE_ok (fun h => hk _ _ h) hs) h
  | seq a b iha ihb =>
    intro st k K hk h
    rw [wpx_seq]
    refine iha (fun e s he => ?_) h
    cases e with
    | normal => exact ihb hk he
    | exit i => exact hk _ _ he
    | ret => exact hk _ _ he
  | cond c a b iha ihb =>
    intro st k K hk h
    rw [wpx_cond]
    obtain ⟨tm, own⟩ := st
    refine evE_ok (Γ := E.env base prot) (fun v hv => ?_) h
    dsimp only at hv ⊢
    split at hv
    · split at hv
      · exact brK_true rfl (iha hk hv)
      · exact brK_false rfl (ihb hk hv)
    · cases hv
  | block id b ih =>
    intro st k K hk h
    rw [wpx_block]
    refine ih (fun e s he => ?_) h
    cases e with
    | normal => exact hk _ _ he
    | exit j =>
      dsimp only at he ⊢
      split at he
      · rename_i e; rw [e]; exact hk _ _ he
      · rename_i e; rw [e]; exact hk _ _ he
    | ret => exact hk _ _ he
  | loop b ih => intro st k K hk h; rw [wpx_loop]; exact loopE_ok (W := fun st k => evC E base prot fuel b st k) (fun st k K hk h => ih hk h) hk h
  | exit id => intro st k K hk h; exact hk _ _ h
  | ret => intro st k K hk h; exact hk _ _ h

/-! functions -/
def takeE {α : Type} : List α → Nat → Nat → (List α → Option R) → Option R
  | _, _, 0, k => k []
  | [], _, _ + 1, _ => none
  | x :: l, 0, n + 1, k => takeE l 0 n fun l => k (x :: l)
  | _ :: l, o + 1, n + 1, k => takeE l o (n + 1) k
theorem takeE_ok {α : Type} : ∀ {l : List α} {o n : Nat} {k : List α → Option R} {K : List α → Prop}, (∀ x, k x = some r → K x) → takeE l o n k = some r → takeK l o n K
  | [], _, 0, k, K, hk, h => hk _ h
  | x :: l, _, 0, k, K, hk, h => hk _ h
  | [], _, _ + 1, k, K, hk, h => by cases h
  | x :: l, 0, n + 1, k, K, hk, h => takeE_ok (k := fun l => k (x :: l)) (K := fun l => K (x :: l)) (fun y hy => hk _ hy) h
  | x :: l, o + 1, n + 1, k, K, hk, h => takeE_ok (l := l) (o := o) (n := n + 1) hk h
def rdE (cs : List V) (off : Nat) (n : Option Nat) (k : V → Option R) : Option R := match n with
  | none => getE cs off k
  | some n => takeE cs off n fun l => k (aggV l)
theorem rdE_ok {cs : List V} {off : Nat} {n : Option Nat} {k : V → Option R} {K : V → Prop} (hk : ∀ x, k x = some r → K x) (h : rdE cs off n k = some r) : rdK cs off n K := by
  cases n with
  | none => exact getE_ok hk h
  | some n => exact takeE_ok (k := fun l => k (aggV l)) (fun y hy => hk _ hy) h
def lstResE (sz off m : Nat) (n : Option Nat) (ts : List T) (k : V → Option R) : Option R := match sz, off, m, n with
  | 1, 0, 0, some n => match decide (ts.length = n) && ts.all T.one with
    | true => k (.t (.agg ts))
    | false => none
  | _, _, _, _ => none
theorem lstResE_ok {sz off m : Nat} {n : Option Nat} {ts : List T} {k : V → Option R} {K : V → Prop} (hk : ∀ x, k x = some r → K x) (h : lstResE sz off m n ts k = some r) : lstResK sz off m n ts K := by
  unfold lstResE at h
  unfold lstResK
  split at h
  · split at h
    · rename_i h1
      rw [Bool.and_eq_true, decide_eq_true_eq, List.all_eq_true] at h1
      exact reqK_of h1 (hk _ h)
    · cases h
  · cases h
def resE (st : St) : List Res → (List V → Option R) → Option R
  | [], k => k []
  | x :: rs, k => match st with
    | ⟨tm, own⟩ => match x with
      | .tmp t => getE tm t fun v => resE ⟨tm, own⟩ rs fun l => k (v :: l)
      | .cell t n => getE tm t fun v => match v with
        | .ptr j off => lkupE j own fun b => match b with
          | .cells cs => rdE cs off n fun v => resE ⟨tm, own⟩ rs fun l => k (v :: l)
          | .lst sz ts m => lstResE sz off m n ts fun v => resE ⟨tm, own⟩ rs fun l => k (v :: l)
          | _ => none
        | _ => none
theorem resE_ok {st : St} : ∀ {rs : List Res} {k : List V → Option R} {K : List V → Prop}, (∀ x, k x = some r → K x) → resE st rs k = some r → resK st rs K
  | [], k, K, hk, h => hk _ h
  | x :: rs, k, K, hk, h => by
    obtain ⟨tm, own⟩ := st
    simp only [resE] at h
    simp only [resK]
    cases x with
    | tmp t => exact getE_ok (fun v hv => resE_ok (fun l hl => hk _ hl) hv) h
    | cell t n =>
      refine getE_ok (fun v hv => ?_) h
      split at hv
      · refine lkupE_ok (fun b hb => ?_) hv
        split at hb
        · exact rdE_ok (fun v hv => resE_ok (fun l hl => hk _ hl) hv) hb
        · exact lstResE_ok (fun v hv => resE_ok (fun l hl => hk _ hl) hv) hb
        · cases hb
      · cases hv
def padE : Nat → (List V → Option R) → Option R
  | 0, k => k []
  | n + 1, k => padE n fun l => k (.dead :: l)
theorem padE_ok : ∀ {n : Nat} {k : List V → Option R} {K : List V → Prop}, (∀ x, k x = some r → K x) → padE n k = some r → padK n K
  | 0, k, K, hk, h => hk _ h
  | n + 1, k, K, hk, h => padE_ok (k := fun l => k (.dead :: l)) (K := fun l => K (.dead :: l)) (fun y hy => hk _ hy) h
def initE : List V → Nat → (List V → Option R) → Option R
  | [], n, k => padE n k
  | x :: l, n, k => initE l n fun l => k (x :: l)
theorem initE_ok : ∀ {l : List V} {n : Nat} {k : List V → Option R} {K : List V → Prop}, (∀ x, k x = some r → K x) → initE l n k = some r → initK l n K
  | [], n, k, K, hk, h => padE_ok hk h
  | x :: l, n, k, K, hk, h => initE_ok (k := fun l => k (x :: l)) (K := fun l => K (x :: l)) (fun y hy => hk _ hy) h
def endE (e : Ex) (k : Option R) : Option R := match e with
  | .normal => k
  | .ret => k
  | .exit _ => none
theorem endE_ok {e : Ex} {k : Option R} {K : Prop} (hk : k = some r → K) (h : endE e k = some r) : endK e K := by
  cases e with
  | normal => exact hk h
  | ret => exact hk h
  | exit i => cases h
def keepE (m : List Nat) : Own → (Own → Option R) → Option R
  | [], k => k []
  | p :: l, k => match p with
    | (j, b) => match notIn j m with
      | true => keepE m l k
      | false => keepE m l fun r' => k ((j, b) :: r')
theorem keepE_ok {m : List Nat} : ∀ {own : Own} {k : Own → Option R} {K : Own → Prop}, (∀ x, k x = some r → K x) → keepE m own k = some r → keepK m own K
  | [], k, K, hk, h => hk _ h
  | p :: l, k, K, hk, h => by
    obtain ⟨j, b⟩ := p
    simp only [keepE] at h
    simp only [keepK]
    split at h
    · rename_i e; rw [e]; exact keepE_ok hk h
    · rename_i e; rw [e]; exact keepE_ok (k := fun r' => k ((j, b) :: r')) (fun y hy => hk _ hy) h
def pushE (k : List Nat → Option R) : List Nat → List Nat → Option R
  | [], m => k m
  | x :: l, m => match notIn x m with
    | true => pushE k l (x :: m)
    | false => pushE k l m
theorem pushE_ok {k : List Nat → Option R} {K : List Nat → Prop} (hk : ∀ m, k m = some r → K m) : ∀ {l m : List Nat}, pushE k l m = some r → pushK l m K
  | [], m, h => hk m h
  | x :: l, m, h => by
    simp only [pushE] at h
    simp only [pushK]
    split at h
    · rename_i e; rw [e]; exact pushE_ok hk h
    · rename_i e; rw [e]; exact pushE_ok hk h
def reachE (k : List Nat → Option R) : Own → List Nat → Option R
  | [], m => k m
  | p :: l, m => match notIn p.1 m with
    | true => reachE k l m
    | false => pushE (fun m' => reachE k l m') (bRefs p.2) m
theorem reachE_ok {k : List Nat → Option R} {K : List Nat → Prop} (hk : ∀ m, k m = some r → K m) : ∀ {own : Own} {m : List Nat}, reachE k own m = some r → reachK K own m
  | [], m, h => hk m h
  | p :: l, m, h => by
    simp only [reachE] at h
    simp only [reachK]
    split at h
    · rename_i e; rw [e]; exact reachE_ok hk h
    · rename_i e; rw [e]; exact pushE_ok (fun m' h => reachE_ok hk h) h
def marksE (own : Own) (k : List Nat → Option R) : Own → List Nat → Option R
  | [], m => k m
  | _ :: l, m => reachE (fun m' => marksE own k l m') own m
theorem marksE_ok {own0 : Own} {k : List Nat → Option R} {K : List Nat → Prop} (hk : ∀ m, k m = some r → K m) : ∀ {own : Own} {m : List Nat}, marksE own0 k own m = some r → marksK own0 K own m
  | [], m, h => hk m h
  | p :: l, m, h => by
    unfold marksE at h
    unfold marksK
    exact reachE_ok (fun m' h => marksE_ok hk h) h
def gcE (roots : List Nat) (own : Own) (k : Own → Option R) : Option R :=
  pushE (fun m0 => marksE own (fun m => natE (allIn m roots) (natE (ownClosed m own) (keepE m own k))) own m0) roots []
theorem gcE_ok {roots : List Nat} {own : Own} {k : Own → Option R} {K : Own → Prop} (hk : ∀ x, k x = some r → K x) (h : gcE roots own k = some r) : gcK roots own K :=
  pushE_ok (fun m0 h => marksE_ok (fun m h => natE_ok (fun h => natE_ok (fun h => keepE_ok hk h) h) h) h) h
end

noncomputable def fnE (E : EnvE) (fuel : Nat) (m : MFn) (args : List T) : Option T :=
  lenE args m.np (tagE args fun vs => initE vs (m.nt - m.np) fun tm => evC E 0 [] fuel m.body ⟨tm, []⟩ fun e st => endE e (resE st m.res fun l =>
    evP false (toTP 8 (oneV l) fun x => .ret (.t x)) st.own [] fun v _ _ => match v with
      | .t x => some x
      | _ => none))
theorem fnE_ok {E : EnvE} {fuel : Nat} {m : MFn} {args : List T} {x : T} (h : fnE E fuel m args = some x) : fnK (E.env 0 []) m args (· = x) := by
  refine lenE_ok (fun h => tagE_ok (fun vs h => initE_ok (fun tm h => evC_ok (fun e st h => endE_ok (fun h => resE_ok (fun l h => evP_ok (fun v o l h => ?_) h) h) h) h) h) h) h
  dsimp only at h ⊢
  split at h
  · cases h; rfl
  · cases h
noncomputable def inE (E : EnvE) (fuel : Nat) (m : MFn) (base : Nat) (args : List V) (own : Own) : Option (V × Own) :=
  lenE args m.np (initE args (m.nt - m.np) fun tm => evC E base (keysOf own) fuel m.body ⟨tm, own⟩ fun e st => endE e (resE st m.res fun l =>
    gcE (vRefs (oneV l) ++ keysOf own) st.own fun own' => some (oneV l, own')))
theorem inE_ok {E : EnvE} {fuel : Nat} {m : MFn} {base : Nat} {args : List V} {own : Own} {v : V} {own' : Own} {R : V → Own → Prop} (h : inE E fuel m base args own = some (v, own')) (hR : R v own') : inl (E.env 0 []) m base args own R := by
  refine lenE_ok (fun h => initE_ok (fun tm h => evC_ok (fun e st h => endE_ok (fun h => resE_ok (fun l h => gcE_ok (fun o h => ?_) h) h) h) h) h) h
  cases h
  exact hR

/-! ### programs -/
/-- the functions: laid in (true) or not; and what is known of others -/
def tabF : List (Nat × Nat × MFn) → Nat → Option (Nat × MFn)
  | [], _ => none
  | p :: r, n => match p with
    | (j, x) => match Nat.beq j n with
      | true => some x
      | false => tabF r n
noncomputable def envE (gl : Nat → Option (List T)) (ext : Nat → List T → Ans) (tab : List (Nat × Nat × MFn)) (fuel : Nat) (d : Nat) : EnvE :=
  Nat.rec (motive := fun _ => EnvE) ⟨fun n ts => ext n ts, gl, fun _ => false, fun _ _ _ _ => none⟩
    (fun _ E => ⟨fun n ts => match tabF tab n with
        | some p => match p with
          | (b, m) => match b with
            | 2 => pkOf (fnE E fuel m ts)
            | _ => ansOf (fnE E fuel m ts)
        | none => ext n ts, gl,
      fun n => match tabF tab n with
        | some p => match p with
          | (b, _) => Nat.beq b 1
        | none => false,
      fun n base args own => match tabF tab n with
        | some p => match p with
          | (_, m) => inE E fuel m base args own
        | none => none⟩) d
theorem got_ansOf {y : Option T} {x : T} (h : ansOf y = .yes x ∨ ∃ p d, ansOf y = @Ans.req p d x ∧ p) : y = some x := by
  cases y with
  | none => rcases h with h | ⟨p, d, h, _⟩ <;> cases h
  | some z => rcases h with h | ⟨p, d, h, _⟩ <;> cases h; rfl
/-- what is known of functions that are not run -/
structure ExtOk (P : Program) (gls : Nat → Option (List T)) (ext : Nat → List T → Ans) : Prop where
  fn : ∀ f vs x, (ext f vs = .yes x ∨ ∃ p d, ext f vs = @Ans.req p d x ∧ p) → FnOk P gls f vs x
  gl : ∀ f vs p d sz xs, ext f vs = @Ans.gl p d sz xs → p → FnGl P gls f vs sz xs
  pk : ∀ f vs p d x, ext f vs = @Ans.pk p d x → p → FnOk P gls f vs x
theorem extNo {P : Program} {gl : Nat → Option (List T)} : ExtOk P gl (fun _ _ => .no) :=
  ⟨fun f vs x h => (by rcases h with h | ⟨p, d, h, _⟩ <;> cases h), fun f vs p d sz xs h => (by cases h), fun f vs p d x h => (by cases h)⟩
theorem envE_ok {P : Program} {gl : Nat → Option (List T)} {ext : Nat → List T → Ans} {tab : List (Nat × Nat × MFn)} {fuel : Nat} (hext : ExtOk P gl ext)
    (htab : ∀ p ∈ tab, ∃ fn, P.funcs[p.1]? = some fn ∧ lowFn P fn = some p.2.2) : ∀ d, EnvOk P ((envE gl ext tab fuel d).env 0 []) := by
  have look : ∀ {l : List (Nat × Nat × MFn)} {n : Nat} {b : Nat} {m : MFn}, tabF l n = some (b, m) → (n, b, m) ∈ l := by
    intro l
    induction l with
    | nil => intro n b m h; cases h
    | cons p l ih =>
      intro n b m h
      obtain ⟨j, x⟩ := p
      simp only [tabF] at h
      split at h
      · rename_i e
        cases h
        rw [Nat.beq_eq] at e
        subst e
        exact List.mem_cons_self
      · exact List.mem_cons_of_mem _ (ih h)
  have glno : ∀ {y : Option T} {p : Prop} {d : Decidable p} {sz : Nat} {xs : List T}, ansOf y = @Ans.gl p d sz xs → False := by
    intro y p d sz xs h; cases y <;> cases h
  have pkno : ∀ {y : Option T} {p : Prop} {d : Decidable p} {x : T}, ansOf y = @Ans.pk p d x → False := by
    intro y p d x h; cases y <;> cases h
  have glno2 : ∀ {y : Option T} {p : Prop} {d : Decidable p} {sz : Nat} {xs : List T}, pkOf y = @Ans.gl p d sz xs → False := by
    intro y p d sz xs h; cases y <;> cases h
  have yesno : ∀ {y : Option T} {x : T}, (pkOf y = .yes x ∨ ∃ p d, pkOf y = @Ans.req p d x ∧ p) → False := by
    intro y x h
    cases y with
    | none => rcases h with h | ⟨p, d, h, _⟩ <;> cases h
    | some z => rcases h with h | ⟨p, d, h, _⟩ <;> cases h
  have pkyes : ∀ {y : Option T} {p : Prop} {d : Decidable p} {x : T}, pkOf y = @Ans.pk p d x → y = some x := by
    intro y p d x h
    cases y with
    | none => cases h
    | some z => cases h; rfl
  intro d
  induction d with
  | zero => exact ⟨hext.fn, hext.gl, hext.pk, fun f base args own R h => by cases h⟩
  | succ d ih =>
    have hgl : ∀ d, (envE gl ext tab fuel d).gl = gl := by intro d; cases d <;> rfl
    have hgl' : ((envE gl ext tab fuel d).env 0 []).gl = gl := hgl d
    have main : ∀ f vs x b m, tabF tab f = some (b, m) → fnE (envE gl ext tab fuel d) fuel m vs = some x → FnOk P gl f vs x := fun f vs x b m hp h => by
      obtain ⟨fn, h1, h2⟩ := htab _ (look hp)
      have := fn_ok ih h1 h2 (fnE_ok h)
      rw [hgl'] at this
      exact this
    have efn : ∀ f vs, ((envE gl ext tab fuel (d + 1)).env 0 []).fn f vs = match tabF tab f with
        | some p => match p with
          | (b, m) => match b with
            | 2 => pkOf (fnE (envE gl ext tab fuel d) fuel m vs)
            | _ => ansOf (fnE (envE gl ext tab fuel d) fuel m vs)
        | none => ext f vs := fun f vs => rfl
    refine ⟨fun f vs x h => ?_, fun f vs p dd sz xs h hp0 => ?_, fun f vs p dd x h hp0 => ?_, fun f base args own R hi h => ?_⟩
    · rw [efn] at h
      split at h
      · rename_i p hp
        obtain ⟨b, m⟩ := p
        dsimp only at h
        split at h
        · exact (yesno h).elim
        · exact main f vs x b m hp (got_ansOf h)
      · exact hext.fn f vs x h
    · rw [efn] at h
      split at h
      · exfalso
        split at h
        split at h
        · exact glno2 h
        · exact glno h
      · exact hext.gl f vs p dd sz xs h hp0
    · rw [efn] at h
      split at h
      · rename_i p hp
        obtain ⟨b, m⟩ := p
        dsimp only at h
        split at h
        · exact main f vs x _ m hp (pkyes h)
        · exact (pkno h).elim
      · exact hext.pk f vs p dd x h hp0
    · obtain ⟨v, own', h, hR⟩ := h
      have h : (match tabF tab f with
        | some p => match p with
          | (_, m) => inE (envE gl ext tab fuel d) fuel m base args own
        | none => none) = some (v, own') := h
      split at h
      · rename_i p hp
        obtain ⟨b, m⟩ := p
        obtain ⟨fn, h1, h2⟩ := htab _ (look hp)
        have := inl_ok ih h1 h2 (inE_ok (R := R) h hR)
        rw [hgl'] at this
        exact this
      · cases h
theorem tab_nil {Q : Nat × Nat × MFn → Prop} : ∀ p ∈ ([] : List (Nat × Nat × MFn)), Q p := fun _ h => by cases h
theorem tab_cons {Q : Nat × Nat × MFn → Prop} {p : Nat × Nat × MFn} {l : List (Nat × Nat × MFn)} (h1 : Q p) (h2 : ∀ q ∈ l, Q q) : ∀ q ∈ p :: l, Q q := fun q hq => by
  rcases List.mem_cons.1 hq with rfl | h
  · exact h1
  · exact h2 q h
/-- A CLOSED CALL: what the evaluator answers is what the program does. -/
theorem ev_ok {P : Program} {gl : Nat → Option (List T)} {ext : Nat → List T → Ans} {tab : List (Nat × Nat × MFn)} {fuel d : Nat} (hext : ExtOk P gl ext)
    (htab : ∀ p ∈ tab, ∃ fn, P.funcs[p.1]? = some fn ∧ lowFn P fn = some p.2.2) {n : Nat} {ts : List T} {x : T} (h : (envE gl ext tab fuel d).fn n ts = .yes x) : FnOk P gl n ts x := by
  have hgl : ((envE gl ext tab fuel d).env 0 []).gl = gl := by cases d <;> rfl
  have := (envE_ok hext htab d).fn n ts x (.inl h)
  rwa [hgl] at this
end Go.Nx
