/-
  A part of the machine, and of what is walked.
-/
import Derived.Calls
section
set_option linter.unusedVariables false
namespace Go.Nx

inductive T where
  | bool (b : Bool)
  | int (k : IntKind) (n : Int)
  | str (s : ByteArray)
  | list (sz : Nat) (xs : List T)
  | nils
  | agg (cs : List T)
  | tup (vs : List T)
  | fn (f : Fn) (first caps : List T)
  | nilfn
  | ifc (t : TypeId) (x : T)
  | nilif
  | nilptr
  | nilmap
  | ref (cs : List T)
  deriving Inhabited
def T.undef : T := .tup []
def T.cells : T → List T
  | .agg cs => cs
  | x => [x]
def T.one : T → Bool
  | .agg _ | .tup _ => false
  | _ => true

inductive V where
  | t (x : T)
  | ptr (k off : Nat)
  | eptr (k i j : Nat)
  | sl (k off : Nat) (len : Option Nat)
  | cl (sz : Nat) (xs : List T)
  | ce
  | mp (k : Nat)
  | fn (f : Fn) (first caps : List V)
  | agg (cs : List V)
  | tup (cs : List V)
  | dead
  deriving Inhabited

inductive Blk where
  | cells (cs : List V)
  | frz (cs : List T)
  | lst (sz : Nat) (ts : List T) (m : Nat)
  | map (nr : Bool) (es : List (T × V))
  | gone
  deriving Inhabited

inductive Opd where
  | t (i : Nat)
  | k (x : T)
  | g (i : Nat)

inductive MK where
  | mv (x : Opd)
  | pick (c a b : Opd)
  | alloc (key : Nat) (z : List T)
  | alloca (key : Nat) (z : List T)
  | box (key : Nat) (x : Opd)
  | boxa (key : Nat) (x : Opd)
  | ld (n : Option Nat) (a : Opd)
  | st (n : Nat) (a x : Opd)
  | nilc (x : Opd)
  | fa (off : Nat) (a : Opd)
  | fld (off : Nat) (n : Option Nat) (x : Opd)
  | ixa (len sz : Nat) (x i : Opd)
  | ixk (len sz : Nat) (x : Opd) (i : Nat)
  | ixs (sz : Nat) (x i : Opd)
  | ixstr (x i : Opd)
  | bin (op : BinOp) (x y : Opd)
  | binb (op : BinOp) (x y : Opd)
  | eqa (neg : Bool) (sh : List Nat) (x y : Opd)
  | isn (kd : Nat) (neg : Bool) (x : Opd)
  | un (op : UnOp) (x : Opd)
  | conv (k : IntKind) (x : Opd)
  | cvs (x : Opd)
  | cvb (x : Opd)
  | bld (z : List T) (parts : List (Nat × Nat × Opd))
  | bslt (sz : Nat) (xs : List Opd)
  | ext (x : Opd) (i : Nat)
  | lens (x : Opd)
  | len (x : Opd)
  | mx (x y : Opd)
  | mn (x y : Opd)
  | slstr (x : Opd) (lo hi : Option Opd)
  | sll (sz : Nat) (x : Opd) (lo hi : Option Opd)
  | slp (sz n : Nat) (x : Opd) (lo hi : Option Opd)
  | clip (sz : Nat) (x h m : Opd)
  | ixv (len : Nat) (x i : Opd)
  | app (key sz bytes : Nat) (s x : Opd)
  | mks (key sz bytes : Nat) (z : T) (n : Opd)
  | appz (key sz bytes : Nat) (z : T) (s n : Opd)
  | mkf (f : Fn) (first caps : List Opd)
  | mkm (key : Nat)
  | ins (s : Bool) (m k v : Opd)
  | lkp (s : Bool) (z : T) (ok : Bool) (m k : Opd)
  | lkpi (m k : Opd)
  | updi (m k v : Opd)
  | capn (x : Opd)
  | clr (sz : Nat) (z : T) (x : Opd)
  | cpy (sz : Nat) (d x : Opd)
  | stop
  | pan (x : Opd)
  | mki (t : TypeId) (x : Opd)
  | tas (t : TypeId) (z : T) (ok : Bool) (x : Opd)
  | isi (neg : Bool) (x : Opd)
  | call (key : Nat) (f : Opd) (args : List Opd)

structure MOp where
  d : Option Nat
  op : MK
  g : Option (Nat × Bool)

inductive MC where
  | skip
  | reg (ops : List MOp) (draw : Option (List (Nat × Nat)))
  | seq (a b : MC)
  | cond (c : Opd) (a b : MC)
  | block (id : Nat) (b : MC)
  | loop (b : MC)
  | exit (id : Nat)
  | ret

abbrev Own := List (Nat × Blk)
structure St where
  tm : List V
  own : Own

inductive Ex where
  | normal | exit (id : Nat) | ret | pan (x : Option T)

inductive Ans where
  | no
  | yes (x : T)
  | req (p : Prop) [d : Decidable p] (x : T)
  | gl (p : Prop) [d : Decidable p] (sz : Nat) (xs : List T)
  | pk (p : Prop) [d : Decidable p] (x : T)

inductive AnsP where
  | no
  | br (p : Prop) (c : Bool) (x : T) (y : Option T)
def optT : Option T → T
  | none => .tup []
  | some t => .tup [t]
noncomputable def encP (g : List T → AnsP) (ts : List T) : Ans := match g ts with
  | .no => .no
  | .br p c x y => @Ans.req p (Classical.propDecidable p) (.tup [.bool c, x, optT y])

structure Env where
  fn : Nat → List T → Ans
  gl : Nat → Option (List T)
  base : Nat
  prot : List Nat
  isI : Nat → Bool
  pt : Nat → Nat → List V → Own → (V → Own → Prop) → Prop
  isD : Nat → Bool
  pn : List (Nat × (List T → AnsP))

instance decNil {α : Type} : ∀ xs : List α, Decidable (xs = [])
  | [] => .isTrue rfl
  | _ :: _ => .isFalse (by intro h; cases h)
@[irreducible] def brK (b : Bool) (A B : Prop) : Prop := (b = true → A) ∧ (b = false → B)
theorem brK_of {b : Bool} {A B : Prop} (h1 : b = true → A) (h2 : b = false → B) : brK b A B := by unfold brK; exact ⟨h1, h2⟩
theorem brK_true {b : Bool} {A B : Prop} (h : b = true) (h1 : A) : brK b A B := by
  subst h; unfold brK; exact ⟨fun _ => h1, (fun h => (by cases h))⟩
theorem brK_false {b : Bool} {A B : Prop} (h : b = false) (h1 : B) : brK b A B := by
  subst h; unfold brK; exact ⟨(fun h => (by cases h)), fun _ => h1⟩
theorem brK_elim {b : Bool} {A B : Prop} (h : brK b A B) : (b = true ∧ A) ∨ (b = false ∧ B) := by
  unfold brK at h
  cases b
  · exact .inr ⟨rfl, h.2 rfl⟩
  · exact .inl ⟨rfl, h.1 rfl⟩
@[irreducible] def nthK {α : Type} (xs : List α) (i : Int) (K : α → Prop) : Prop := 0 ≤ i ∧ ∃ x, xs[i.toNat]? = some x ∧ K x
theorem nthK_of {α : Type} {xs : List α} {i : Int} {K : α → Prop} (x : α) (h0 : 0 ≤ i) (h : xs[i.toNat]? = some x) (hK : K x) : nthK xs i K := by
  unfold nthK; exact ⟨h0, x, h, hK⟩
theorem nthK_elim {α : Type} {xs : List α} {i : Int} {K : α → Prop} (h : nthK xs i K) : 0 ≤ i ∧ ∃ x, xs[i.toNat]? = some x ∧ K x := by
  unfold nthK at h; exact h
@[irreducible] def reqK (p : Prop) (K : Prop) : Prop := p ∧ K
theorem reqK_of {p K : Prop} (h : p) (hK : K) : reqK p K := by unfold reqK; exact ⟨h, hK⟩
theorem reqK_elim {p K : Prop} (h : reqK p K) : p ∧ K := by unfold reqK at h; exact h
@[irreducible] def altK (c A B : Prop) : Prop := A ∧ (c → B)
theorem altK_of {c A B : Prop} (h : A) (h2 : c → B) : altK c A B := by unfold altK; exact ⟨h, h2⟩
theorem altK_elim {c A B : Prop} (h : altK c A B) : A ∧ (c → B) := by unfold altK at h; exact h

@[irreducible] def eqI (a b : Int) : Bool := a == b
@[irreducible] def ltI (a b : Int) : Bool := decide (a < b)
@[irreducible] def leI (a b : Int) : Bool := decide (a ≤ b)
@[irreducible] def eqS (a b : ByteArray) : Bool := a.toList == b.toList
@[irreducible] def ltS (a b : ByteArray) : Bool := decide (a.toList < b.toList)
@[irreducible] def eqB (a b : Bool) : Bool := a == b
@[irreducible] def maxI (x y : Int) : Int := if y > x then y else x
@[irreducible] def minI (x y : Int) : Int := if y < x then y else x
theorem eqI_def (a b : Int) : eqI a b = (a == b) := by unfold eqI; rfl
theorem ltI_def (a b : Int) : ltI a b = decide (a < b) := by unfold ltI; rfl
theorem leI_def (a b : Int) : leI a b = decide (a ≤ b) := by unfold leI; rfl
theorem eqS_def (a b : ByteArray) : eqS a b = (a.toList == b.toList) := by unfold eqS; rfl
theorem eqB_def (a b : Bool) : eqB a b = (a == b) := by unfold eqB; rfl
theorem maxI_def (x y : Int) : maxI x y = if y > x then y else x := by unfold maxI; rfl
theorem minI_def (x y : Int) : minI x y = if y < x then y else x := by unfold minI; rfl

def shlI (k : IntKind) (a n : Int) : Int := k.wrap (a * 2 ^ min n.toNat k.bits)
def shrI (k : IntKind) (a n : Int) : Int := a.fdiv (2 ^ min n.toNat k.bits)
def andI (k : IntKind) (a b : Int) : Int := k.wrap (BitVec.ofInt k.bits a &&& BitVec.ofInt k.bits b).toNat
def orI (k : IntKind) (a b : Int) : Int := k.wrap (BitVec.ofInt k.bits a ||| BitVec.ofInt k.bits b).toNat
def xorI (k : IntKind) (a b : Int) : Int := k.wrap (BitVec.ofInt k.bits a ^^^ BitVec.ofInt k.bits b).toNat
def andNotI (k : IntKind) (a b : Int) : Int := k.wrap (BitVec.ofInt k.bits a &&& ~~~ BitVec.ofInt k.bits b).toNat
def kEq : IntKind → IntKind → Bool
  | .i8, .i8 | .i16, .i16 | .i32, .i32 | .i64, .i64 | .u8, .u8 | .u16, .u16 | .u32, .u32 | .u64, .u64 => true
  | _, _ => false
theorem kEq_eq {k j : IntKind} (h : kEq k j = true) : k = j := by cases k <;> cases j <;> first | rfl | cases h

def binI (op : BinOp) (k : IntKind) (a b : Int) : Ans :=
  match op with
  | .shl => .req (0 ≤ b) (.int k (shlI k a b))
  | .shr => .req (0 ≤ b) (.int k (shrI k a b))
  | .add => .yes (.int k (k.wrap (a + b)))
  | .sub => .yes (.int k (k.wrap (a - b)))
  | .mul => .yes (.int k (k.wrap (a * b)))
  | .quo => .req (b ≠ 0) (.int k (k.wrap (a.tdiv b)))
  | .rem => .req (b ≠ 0) (.int k (a.tmod b))
  | .and => .yes (.int k (andI k a b))
  | .or => .yes (.int k (orI k a b))
  | .xor => .yes (.int k (xorI k a b))
  | .andNot => .yes (.int k (andNotI k a b))
  | .eql => .yes (.bool (eqI a b))
  | .neq => .yes (.bool (!eqI a b))
  | .lss => .yes (.bool (ltI a b))
  | .leq => .yes (.bool (leI a b))
  | .gtr => .yes (.bool (ltI b a))
  | .geq => .yes (.bool (leI b a))
def isShift : BinOp → Bool
  | .shl | .shr => true
  | _ => false
def binA (op : BinOp) (x y : T) : Ans :=
  match x, y with
  | .int k a, .int j b => match isShift op with
    | true => binI op k a b
    | false => match kEq k j with
      | true => binI op k a b
      | false => .no
  | .str a, .str b =>
    match op with
    | .eql => .yes (.bool (eqS a b))
    | .neq => .yes (.bool (!eqS a b))
    | .add => .req (a.size + b.size ≤ 9223372036854775807) (.str (a ++ b))
    | _ => .no
  | _, _ => .no
def binbA (op : BinOp) (x y : T) : Ans :=
  match x, y with
  | .bool a, .bool b =>
    match op with
    | .eql => .yes (.bool (eqB a b))
    | .neq => .yes (.bool (!(eqB a b)))
    | _ => .no
  | _, _ => .no
def eqC (c : Nat) (x y : T) : Option Bool := match c, x, y with
  | 0, .bool a, .bool b => some (eqB a b)
  | 1, .int k a, .int j b => match kEq k j with
    | true => some (eqI a b)
    | false => none
  | 2, .str a, .str b => some (eqS a b)
  | _, _, _ => none
def eqCs : List Nat → List T → List T → Option Bool
  | [], [], [] => some true
  | c :: cs, x :: xs, y :: ys => match eqC c x y with
    | some a => match eqCs cs xs ys with
      | some b => some (a && b)
      | none => none
    | none => none
  | _, _, _ => none
def unA (op : UnOp) (x : T) : Ans :=
  match op, x with
  | .not, .bool b => .yes (.bool (!b))
  | .neg, .int k n => .yes (.int k (k.wrap (0 - n)))
  | .xor, .int k n => .yes (.int k (xorI k (if k.signed then -1 else k.max) n))
  | _, _ => .no

def getK {α : Type} : List α → Nat → (α → Prop) → Prop
  | [], _, _ => False
  | x :: _, 0, K => K x
  | _ :: r, n + 1, K => getK r n K
def setK {α : Type} : List α → Nat → α → (List α → Prop) → Prop
  | [], _, _, _ => False
  | _ :: r, 0, v, K => K (v :: r)
  | x :: r, n + 1, v, K => setK r n v fun r' => K (x :: r')
def lkupK (k : Nat) : Own → (Blk → Prop) → Prop
  | [], _ => False
  | p :: r, K => match p with
    | (j, b) => match Nat.beq j k with
      | true => K b
      | false => lkupK k r K
def updK (k : Nat) (b : Blk) : Own → (Own → Prop) → Prop
  | [], _ => False
  | p :: r, K => match p with
    | (j, c) => match Nat.beq j k with
      | true => K ((j, b) :: r)
      | false => updK k b r fun r' => K ((j, c) :: r')
def freshK (k : Nat) : Own → Prop → Prop
  | [], K => K
  | p :: r, K => match p with
    | (j, _) => match Nat.beq j k with
      | true => False
      | false => freshK k r K
def evK (Γ : Env) (tm : List V) (x : Opd) (K : V → Prop) : Prop := match x with
  | .t i => getK tm i K
  | .k x => K (.t x)
  | .g i => match Γ.gl i with
    | some cs => K (.t (.ref cs))
    | none => False
def evsK (Γ : Env) (tm : List V) : List Opd → (List V → Prop) → Prop
  | [], K => K []
  | x :: r, K => evK Γ tm x fun v => evsK Γ tm r fun l => K (v :: l)
def putK (st : St) (d : Option Nat) (v : V) (K : St → Prop) : Prop := match d with
  | none => K st
  | some d => match st with
    | ⟨tm, own⟩ => setK tm d v fun tm' => K ⟨tm', own⟩
def tagK : List T → (List V → Prop) → Prop
  | [], K => K []
  | x :: r, K => tagK r fun l => K (.t x :: l)
def lenK {α : Type} : List α → Nat → Prop → Prop
  | [], 0, K => K
  | _ :: r, n + 1, K => lenK r n K
  | _, _, _ => False
def natK (b : Bool) (K : Prop) : Prop := match b with
  | true => K
  | false => False
def notIn (k : Nat) : List Nat → Bool
  | [] => true
  | j :: r => match Nat.beq j k with
    | true => false
    | false => notIn k r

inductive Pg where
  | ret (v : V)
  | no
  | rd (k : Nat) (f : Blk → Pg)
  | wr (k : Nat) (b : Blk) (p : Pg)
  | new (k : Nat) (b : Blk) (p : Pg)
  | req (c : Prop) [d : Decidable c] (p : Pg)
  | br (b : Bool) (p q : Pg)
  | nth (xs : List T) (i : Int) (f : T → Pg)
  | alt (c : Prop) [d : Decidable c] (p q : Pg)

abbrev Log := List (Nat × Bool)
abbrev RunK := Own → Log → (V → Own → Log → Prop) → Prop
noncomputable def run (dr : Bool) (p : Pg) : RunK :=
  Pg.rec (motive := fun _ => RunK)
    (fun v own log K => K v own log)
    (fun own log K => False)
    (fun k _ ih own log K => lkupK k own fun b => ih b own ((k, false) :: log) K)
    (fun k b _ ih own log K => updK k b own fun own' => ih own' ((k, true) :: log) K)
    (fun k b _ ih own log K => freshK k own (ih ((k, b) :: own) ((k, true) :: log) K))
    (fun c _ _ ih own log K => reqK c (ih own log K))
    (fun b _ _ ihp ihq own log K => brK b (ihp own log K) (ihq own log K))
    (fun xs i _ ih own log K => nthK xs i fun x => ih x own log K)
    (fun c _ _ _ ihp ihq own log K => match dr with
      | true => False
      | false => altK c (ihp own log K) (ihq own log K)) p
section
variable (dr : Bool) (own : Own) (log : Log) (K : V → Own → Log → Prop)
theorem run_ret (v : V) : run dr (.ret v) own log K = K v own log := rfl
theorem run_no : run dr .no own log K = False := rfl
theorem run_rd (k : Nat) (f : Blk → Pg) : run dr (.rd k f) own log K = lkupK k own fun b => run dr (f b) own ((k, false) :: log) K := rfl
theorem run_wr (k : Nat) (b : Blk) (p : Pg) : run dr (.wr k b p) own log K = updK k b own fun own' => run dr p own' ((k, true) :: log) K := rfl
theorem run_new (k : Nat) (b : Blk) (p : Pg) : run dr (.new k b p) own log K = freshK k own (run dr p ((k, b) :: own) ((k, true) :: log) K) := rfl
theorem run_req (c : Prop) [Decidable c] (p : Pg) : run dr (.req c p) own log K = reqK c (run dr p own log K) := rfl
theorem run_br (b : Bool) (p q : Pg) : run dr (.br b p q) own log K = brK b (run dr p own log K) (run dr q own log K) := rfl
theorem run_nth (xs : List T) (i : Int) (f : T → Pg) : run dr (.nth xs i f) own log K = nthK xs i fun x => run dr (f x) own log K := rfl
theorem run_alt (c : Prop) [Decidable c] (p q : Pg) : run dr (.alt c p q) own log K = (match dr with
  | true => False
  | false => altK c (run dr p own log K) (run dr q own log K)) := rfl
end

def getP {α : Type} : List α → Nat → (α → Pg) → Pg
  | [], _, _ => .no
  | x :: _, 0, f => f x
  | _ :: r, n + 1, f => getP r n f
def takeP {α : Type} : List α → Nat → Nat → (List α → Pg) → Pg
  | _, _, 0, f => f []
  | [], _, _ + 1, _ => .no
  | x :: r, 0, n + 1, f => takeP r 0 n fun l => f (x :: l)
  | _ :: r, o + 1, n + 1, f => takeP r o (n + 1) f
def putNP {α : Type} : List α → Nat → List α → (List α → Pg) → Pg
  | cs, _, [], f => f cs
  | [], _, _ :: _, _ => .no
  | _ :: r, 0, v :: vs, f => putNP r 0 vs fun r' => f (v :: r')
  | x :: r, o + 1, v :: vs, f => putNP r o (v :: vs) fun r' => f (x :: r')
def lenP {α : Type} : List α → Nat → Pg → Pg
  | [], 0, p => p
  | _ :: r, n + 1, p => lenP r n p
  | _, _, _ => .no
def natP (b : Bool) (p : Pg) : Pg := match b with
  | true => p
  | false => .no
def oneP (x : T) (p : Pg) : Pg := match x with
  | .agg _ => .no
  | .tup _ => .no
  | _ => p
def onesP : List T → Pg → Pg
  | [], p => p
  | x :: r, p => oneP x (onesP r p)
def oneVP (v : V) (p : Pg) : Pg := match v with
  | .agg _ => .no
  | .tup _ => .no
  | .dead => .no
  | .t x => oneP x p
  | _ => p
def onesVP : List V → Pg → Pg
  | [], p => p
  | v :: r, p => oneVP v (onesVP r p)
def tagP : List T → (List V → Pg) → Pg
  | [], f => f []
  | x :: r, f => tagP r fun l => f (.t x :: l)
def cellsP (v : V) (f : List V → Pg) : Pg := match v with
  | .t x => match x with
    | .agg l => onesP l (tagP l f)
    | .tup _ => .no
    | y => f [.t y]
  | .agg l => onesVP l (f l)
  | .tup _ => .no
  | .dead => .no
  | v => f [v]
def cellsTP (x : T) (f : List T → Pg) : Pg := match x with
  | .agg l => onesP l (f l)
  | .tup _ => .no
  | y => f [y]
def unT : List V → Option (List T)
  | [] => some []
  | v :: r => match v with
    | .t x => match unT r with
      | some l => some (x :: l)
      | none => none
    | _ => none
def aggV (l : List V) : V := match unT l with
  | some ts => .t (.agg ts)
  | none => .agg l
def tupV (l : List V) : V := match unT l with
  | some ts => .t (.tup ts)
  | none => .tup l
def rdP (cs : List V) (off : Nat) (n : Option Nat) (f : V → Pg) : Pg := match n with
  | none => getP cs off f
  | some n => takeP cs off n fun l => f (aggV l)
def rdTP (cs : List T) (off : Nat) (n : Option Nat) (f : V → Pg) : Pg := match n with
  | none => getP cs off fun x => f (.t x)
  | some n => takeP cs off n fun l => f (.t (.agg l))
def subL (ts : List T) (off : Nat) (len : Option Nat) : List T := match off, len with
  | 0, none => ts
  | o + 1, none => ts.drop (o + 1)
  | o, some n => (ts.drop o).take n
def lenL (ts : List T) (off : Nat) (len : Option Nat) : Int := match off, len with
  | 0, none => ts.length
  | o + 1, none => (ts.length : Int) - ((o + 1 : Nat) : Int)
  | _, some n => n
def toTsWith (g : V → (T → Pg) → Pg) : List V → (List T → Pg) → Pg
  | [], f => f []
  | v :: r, f => g v fun x => toTsWith g r fun l => f (x :: l)
def toTP : Nat → V → (T → Pg) → Pg
  | 0, _, _ => .no
  | n + 1, v, f => match v with
    | .t x => f x
    | .cl sz xs => f (.list sz xs)
    | .sl k off len => .rd k fun b => match b with
      | .lst sz ts m => match m with
        | 0 => .wr k (.lst sz ts 1) (f (.list sz (subL ts off len)))
        | _ + 1 => f (.list sz (subL ts off len))
      | _ => .no
    | .ptr k off => .rd k fun b => match b with
      | .frz cs => f (.ref (cs.drop off))
      | .cells cs => toTsWith (toTP n) cs fun ts => onesP ts (.rd k fun b => match b with
        | .cells _ => .wr k (.frz ts) (f (.ref (ts.drop off)))
        | _ => .no)
      | _ => .no
    | .fn g a b => toTsWith (toTP n) a fun xs => toTsWith (toTP n) b fun ys => f (.fn g xs ys)
    | .agg l => toTsWith (toTP n) l fun ts => f (.agg ts)
    | .tup l => toTsWith (toTP n) l fun ts => f (.tup ts)
    | _ => .no
def toTsP (l : List V) (f : List T → Pg) : Pg := toTsWith (toTP 8) l f
noncomputable def ansP (a : Ans) (k : Nat) : Pg := match a with
  | .no => .no
  | .yes x => .ret (.t x)
  | @Ans.req p d x => .req p (.ret (.t x))
  | @Ans.gl p d sz xs => @Pg.req p d (.new k (.lst sz xs 1) (.ret (.sl k 0 none)))
  | @Ans.pk _ _ _ => .no
noncomputable def ansQ (a : Ans) (k : Nat) : Pg := match a with
  | @Ans.pk p d x => @Pg.req p d (.ret (.t x))
  | a => ansP a k
def scalP (x : T) (p : Pg) : Pg := match x with
  | .bool _ => p
  | .int _ _ => p
  | .str _ => p
  | _ => .no
def hasPtr : List V → Bool
  | [] => false
  | v :: r => match v with
    | .ptr _ _ => true
    | _ => hasPtr r
def tsOf : List V → Option (List T)
  | [] => some []
  | v :: r => match v with
    | .t x => match tsOf r with
      | some l => some (x :: l)
      | none => none
    | _ => none
def peekP (v : V) (f : Option T → Pg) : Pg := match v with
  | .t x => f (some x)
  | .ptr k off => .rd k fun b => match b with
    | .cells cs => match tsOf cs with
      | some ts => f (some (.ref (ts.drop off)))
      | none => f none
    | _ => f none
  | _ => f none
def peekTs : List V → (Option (List T) → Pg) → Pg
  | [], f => f (some [])
  | v :: r, f => peekP v fun x => match x with
    | some x => peekTs r fun l => match l with
      | some l => f (some (x :: l))
      | none => f none
    | none => f none
noncomputable def callP (g : List T → Ans) (args : List V) (key : Nat) : Pg := match hasPtr args with
  | false => toTsP args fun ts => ansQ (g ts) key
  | true => peekTs args fun ps => match ps with
    | some ps => match g ps with
      | @Ans.pk p d x => @Pg.req p d (scalP x (.ret (.t x)))
      | _ => toTsP args fun ts => ansQ (g ts) key
    | none => toTsP args fun ts => ansQ (g ts) key
def listP (v : V) (f : Nat → List T → Pg) : Pg := match v with
  | .t x => match x with
    | .list sz xs => f sz xs
    | .nils => f 0 []
    | _ => .no
  | .cl sz xs => f sz xs
  | .ce => f 0 []
  | .sl k off len => .rd k fun b => match b with
    | .lst sz ts _ => f sz (subL ts off len)
    | _ => .no
  | _ => .no
def listFP (v : V) (f : Nat → List T → Pg) : Pg := match v with
  | .t x => match x with
    | .list sz xs => f sz xs
    | .nils => f 0 []
    | _ => .no
  | .cl sz xs => f sz xs
  | .sl k off len => .rd k fun b => match b with
    | .lst sz ts m => match m with
      | 0 => .no
      | _ + 1 => f sz (subL ts off len)
    | _ => .no
  | _ => .no
def intP (v : V) (f : Int → Pg) : Pg := match v with
  | .t (.int _ z) => f z
  | _ => .no
def bndP (o : Option Opd) (vs : List V) (f : Option Int → List V → Pg) : Pg := match o with
  | none => f none vs
  | some _ => match vs with
    | v :: r => intP v fun z => f (some z) r
    | [] => .no
def fillP : List (Nat × Nat × Opd) → List V → List V → (List V → Pg) → Pg
  | [], _, cs, f => f cs
  | (o, n, _) :: ps, v :: vs, cs, f => cellsP v fun l => lenP l n (putNP cs o l fun cs' => fillP ps vs cs' f)
  | _, _, _, _ => .no
def elsP (sz : Nat) : List T → (List T → Pg) → Pg
  | [], f => f []
  | x :: r, f => cellsTP x fun l => lenP l sz (elsP sz r fun l => f (x :: l))
def ixcP (k o sz : Nat) (z : Int) : Nat → Pg
  | 0 => .no
  | n + 1 => .br (eqI z (n : Int)) (.ret (.ptr k (Nat.add o (Nat.mul n sz)))) (ixcP k o sz z n)
def sameKey (s : Bool) (x y : T) : Option Bool := match s, x, y with
  | false, .int k a, .int j b => match kEq k j with
    | true => some (decide (a = b))
    | false => none
  | true, .str a, .str b => some (decide (a.data.toList = b.data.toList))
  | _, _, _ => none
def keyNew (s : Bool) (k : T) : List (T × V) → Prop
  | [] => True
  | e :: r => sameKey s k e.1 = some false ∧ keyNew s k r
instance decKeyNew (s : Bool) (k : T) : ∀ es : List (T × V), Decidable (keyNew s k es)
  | [] => .isTrue trivial
  | e :: r => @instDecidableAnd _ _ (inferInstanceAs (Decidable (sameKey s k e.1 = some false))) (decKeyNew s k r)
def eqKey (s : Bool) (x y : T) : Option Bool := match s, x, y with
  | false, .int k a, .int j b => match kEq k j with
    | true => some (eqI a b)
    | false => none
  | true, .str a, .str b => some (eqS a b)
  | _, _, _ => none
def findP (s : Bool) (k : T) (z : V) : List (T × V) → (V → Bool → Pg) → Pg
  | [], f => f z false
  | e :: r, f => match e with
    | (j, v) => match eqKey s k j with
      | some b => .br b (f v true) (findP s k z r f)
      | none => .no
def okP (ok : Bool) (v : V) (b : Bool) : Pg := match ok with
  | true => .ret (tupV [v, .t (.bool b)])
  | false => .ret v
def keyB (base key : Nat) : Nat := match base with
  | 0 => key
  | b + 1 => Nat.add (b + 1) key
def maxBytes : Nat := 140737488355328

def appTo (kb sz bytes : Nat) (s : V) (xs : List T) : Pg := match s with
  | .t .nils => .req (xs.length * bytes ≤ maxBytes) (.new (kb) (.lst sz xs 0) (.ret (.sl (kb) 0 none)))
  | .ce => .req (xs.length * bytes ≤ maxBytes) (.new (kb) (.lst sz xs 0) (.ret (.sl (kb) 0 none)))
  | .cl sz' ys => natP (Nat.beq sz' sz) (.req ((ys.length + xs.length) * bytes ≤ maxBytes) (.new (kb) (.lst sz (ys ++ xs) 1) (.ret (.sl (kb) 0 none))))
  | .sl k off none => .rd k fun b => match b with
    | .lst sz' ts m => natP (Nat.beq sz' sz) (.req ((ts.length + xs.length) * bytes ≤ maxBytes) (match m with
      | 0 => match off with
        | 0 => .wr k .gone (.new (kb) (.lst sz (ts ++ xs) 0) (.ret (.sl (kb) 0 none)))
        | _ + 1 => .no
      | 1 => .wr k (.lst sz ts 2) (.new (kb) (.lst sz (subL ts off none ++ xs) 1) (.ret (.sl (kb) 0 none)))
      | _ => .no))
    | _ => .no
  | _ => .no
def putL (ts : List T) (off : Nat) (xs : List T) : List T := ts.take off ++ (xs ++ ts.drop (off + xs.length))
def miB : List (T × V) → Bool
  | [] => true
  | e :: r => match e with
    | (.int .i64 _, .t (.int .i64 _)) => miB r
    | _ => false
def getMi : List (T × V) → Int → Int
  | [], _ => 0
  | e :: r, z => match e with
    | (.int _ a, .t (.int _ n)) => match eqI a z with
      | true => n
      | false => getMi r z
    | _ => getMi r z
def putMi : List (T × V) → Int → Int → List (T × V)
  | [], z, n => [(.int .i64 z, .t (.int .i64 n))]
  | e :: r, z, n => match e with
    | (.int k a, v) => match eqI a z with
      | true => (.int k z, .t (.int .i64 n)) :: r
      | false => (.int k a, v) :: putMi r z n
    | _ => e :: putMi r z n
def bytesT : List T → Option (List Int)
  | [] => some []
  | x :: r => match x with
    | .int .u8 n => match bytesT r with
      | some l => some (n :: l)
      | none => none
    | _ => none
noncomputable def prog (base : Nat) (op : MK) (vs : List V) : Pg := match op, vs with
  | .mv _, [v] => .ret v
  | .pick _ _ _, [c, a, b] => match c with
    | .t (.bool x) => .br x (.ret a) (.ret b)
    | _ => .no
  | .alloc key z, [] => tagP z fun cs => .new (keyB base key) (.cells cs) (.ret (.ptr (keyB base key) 0))
  | .alloca key z, [] => .new (keyB base key) (.lst 1 z 0) (.ret (.ptr (keyB base key) 0))
  | .box key _, [v] => cellsP v fun cs => .new (keyB base key) (.cells cs) (.ret (.ptr (keyB base key) 0))
  | .boxa key _, [v] => match v with
    | .t (.agg l) => .req (∀ x ∈ l, x.one = true) (.new (keyB base key) (.lst 1 l 0) (.ret (.ptr (keyB base key) 0)))
    | _ => .no
  | .ld n _, [v] => match v with
    | .ptr k off => .rd k fun b => match b with
      | .cells cs => rdP cs off n .ret
      | .frz cs => rdTP cs off n .ret
      | .lst sz ts m => match sz, off, m, n with
        | 1, 0, 0, some n => .req (ts.length = n ∧ ∀ x ∈ ts, x.one = true) (.ret (.t (.agg ts)))
        | _, _, _, _ => .no
      | _ => .no
    | .eptr k i j => .rd k fun b => match b with
      | .lst sz ts m => match m with
        | 0 => .nth ts i fun x => cellsTP x fun l => rdTP l j n .ret
        | _ + 1 => .no
      | _ => .no
    | .t (.ref cs) => rdTP cs 0 n .ret
    | _ => .no
  | .st n _ _, [a, v] => match a with
    | .ptr k off => .rd k fun b => match b with
      | .cells cs => cellsP v fun l => lenP l n (putNP cs off l fun cs' => .wr k (.cells cs') (.ret (.t .undef)))
      | .lst sz ts m => match sz, off, m, v with
        | 1, 0, 0, .t (.agg l) => .req (l.length = n ∧ ts.length = n ∧ ∀ x ∈ l, x.one = true) (.wr k (.lst 1 l 0) (.ret (.t .undef)))
        | _, _, _, _ => .no
      | _ => .no
    | .eptr k i j => toTP 8 v fun y => .rd k fun b => match b with
      | .lst sz ts m => match m, j, Nat.beq n sz with
        | 0, 0, true => cellsTP y fun l => lenP l n (.req (i < ts.length) (.wr k (.lst sz (ts.set i y) 0) (.ret (.t .undef))))
        | 0, _, _ => .nth ts i fun x => match x with
          | .agg xs => onesP xs (cellsTP y fun l => lenP l n (putNP xs j l fun xs' => .req (i < ts.length) (.wr k (.lst sz (ts.set i (.agg xs')) 0) (.ret (.t .undef)))))
          | _ => .no
        | _, _, _ => .no
      | _ => .no
    | _ => .no
  | .nilc _, [v] => match v with
    | .ptr _ _ => .ret v
    | .eptr _ _ _ => .ret v
    | .t (.ref _) => .ret v
    | .t (.fn (.func _) _ _) => .ret v
    | .fn (.func _) _ _ => .ret v
    | _ => .no
  | .fa off _, [v] => match v with
    | .ptr k o => .ret (.ptr k (Nat.add o off))
    | .eptr k i j => .ret (.eptr k i (Nat.add j off))
    | .t (.ref cs) => .ret (.t (.ref (cs.drop off)))
    | _ => .no
  | .fld off n _, [v] => match v with
    | .t (.agg cs) => rdTP cs off n .ret
    | .agg cs => rdP cs off n .ret
    | _ => .no
  | .ixa len sz _ _, [v, i] => intP i fun z => match v with
    | .ptr k o => .rd k fun b => match b, o with
      | .lst sz' _ 0, 0 => natP (Nat.beq sz' sz) (.req (0 ≤ z ∧ z < len) (.ret (.eptr k z.toNat 0)))
      | .cells _, o => ixcP k o sz z len
      | _, _ => .no
    | .t (.ref cs) => match sz with
      | 1 => .nth cs z fun x => .req (z < len) (.ret (.t (.ref [x])))
      | _ => .no
    | _ => .no
  | .ixk len sz _ i, [v] => match v with
    | .ptr k o => .rd k fun b => match b, o with
      | .lst sz' _ 0, 0 => natP (Nat.beq sz' sz) (.req (i < len) (.ret (.eptr k i 0)))
      | .cells _, o => .req (i < len) (.ret (.ptr k (Nat.add o (Nat.mul i sz))))
      | _, _ => .no
    | .t (.ref cs) => .req (i < len) (.ret (.t (.ref (cs.drop (Nat.mul i sz)))))
    | _ => .no
  | .ixs sz _ _, [v, i] => intP i fun z => match v with
    | .sl k off len => .rd k fun b => match b with
      | .lst sz' ts m => natP (Nat.beq sz' sz) (match m with
        | 0 => .req (0 ≤ z ∧ z < lenL ts off len) (.ret (.eptr k (Nat.add off z.toNat) 0))
        | _ + 1 => .nth (subL ts off len) z fun y => cellsTP y fun l => .ret (.t (.ref l)))
      | _ => .no
    | v => listFP v fun sz' xs => .nth xs z fun y => natP (Nat.beq sz' sz) (cellsTP y fun l => .ret (.t (.ref l)))
  | .ixstr _ _, [v, i] => intP i fun z => match v with
    | .t (.str s) => .req (0 ≤ z ∧ z < s.size) (.ret (.t (.int .u8 (s.data.toList.getD z.toNat 0).toNat)))
    | _ => .no
  | .bin op _ _, [x, y] => match x, y with
    | .t a, .t b => ansP (binA op a b) 0
    | _, _ => .no
  | .binb op _ _, [x, y] => match x, y with
    | .t a, .t b => ansP (binbA op a b) 0
    | _, _ => .no
  | .eqa neg sh _ _, [x, y] => match x, y with
    | .t (.agg a), .t (.agg b) => match eqCs sh a b with
      | some r => .ret (.t (.bool (match neg with | true => !r | false => r)))
      | none => .no
    | _, _ => .no
  | .isn kd neg _, [v] => match kd with
    | 0 => match v with
      | .t .nils => .ret (.t (.bool (!neg)))
      | .t (.list _ xs) => .alt (xs = []) (.ret (.t (.bool neg))) (.ret (.t (.bool (!neg))))
      | .cl _ xs => .alt (xs = []) (.ret (.t (.bool neg))) (.ret (.t (.bool (!neg))))
      | .ce => .ret (.t (.bool neg))
      | .sl k off len => .rd k fun b => match b with
        | .lst _ ts _ => .alt (subL ts off len = []) (.ret (.t (.bool neg))) (.ret (.t (.bool (!neg))))
        | _ => .no
      | _ => .no
    | 1 => match v with
      | .t .nilfn => .ret (.t (.bool (!neg)))
      | .t (.fn _ _ _) => .ret (.t (.bool neg))
      | .fn _ _ _ => .ret (.t (.bool neg))
      | _ => .no
    | 2 => match v with
      | .t .nilmap => .ret (.t (.bool (!neg)))
      | .mp _ => .ret (.t (.bool neg))
      | _ => .no
    | _ => match v with
      | .t .nilptr => .ret (.t (.bool (!neg)))
      | .t (.ref _) => .ret (.t (.bool neg))
      | .ptr _ _ => .ret (.t (.bool neg))
      | .eptr _ _ _ => .ret (.t (.bool neg))
      | _ => .no
  | .un op _, [x] => match x with
    | .t a => ansP (unA op a) 0
    | _ => .no
  | .conv k _, [v] => match v with
    | .t (.int _ n) => .ret (.t (.int k (k.wrap n)))
    | _ => .no
  | .cvb _, [v] => listP v fun sz xs => match xs with
    | [] => .no
    | y :: r => natP (Nat.beq sz 1) (match bytesT (y :: r) with
      | some l => .ret (.t (.str ⟨(l.map fun n => UInt8.ofNat n.toNat).toArray⟩))
      | none => .no)
  | .cvs _, [v] => match v with
    | .t (.str s) => .ret (.t (.str s))
    | _ => .no
  | .bld z parts, vs => tagP z fun cs => fillP parts vs cs fun l => .ret (aggV l)
  | .bslt sz _, vs => match vs with
    | [] => .ret .ce
    | vs => toTsP vs fun ts => elsP sz ts fun l => .ret (.cl sz l)
  | .ext _ i, [v] => match v with
    | .t (.tup l) => getP l i fun y => .ret (.t y)
    | .tup l => getP l i fun y => .ret y
    | _ => .no
  | .lens _, [v] => match v with
    | .t (.str s) => .ret (.t (.int .i64 s.size))
    | _ => .no
  | .len _, [v] => match v with
    | .sl k off len => .rd k fun b => match b with
      | .lst _ ts _ => .ret (.t (.int .i64 (lenL ts off len)))
      | _ => .no
    | v => listP v fun _ xs => .ret (.t (.int .i64 xs.length))
  | .mx _ _, [x, y] => match x, y with
    | .t (.int k a), .t (.int _ b) => .ret (.t (.int k (maxI a b)))
    | _, _ => .no
  | .mn _ _, [x, y] => match x, y with
    | .t (.int k a), .t (.int _ b) => .ret (.t (.int k (minI a b)))
    | _, _ => .no
  | .slstr _ lo hi, v :: vs => match v with
    | .t (.str s) => bndP lo vs fun l vs => bndP hi vs fun h _ =>
      .req (0 ≤ l.getD 0 ∧ l.getD 0 ≤ h.getD s.size ∧ h.getD s.size ≤ s.size) (.ret (.t (.str (s.extract (l.getD 0).toNat (h.getD s.size).toNat))))
    | _ => .no
  | .sll sz _ lo hi, v :: vs => bndP lo vs fun l vs => bndP hi vs fun h _ => match v with
    | .sl k off len => .rd k fun b => match b with
      | .lst sz' ts m => natP (Nat.beq sz' sz) (match l, h with
        | none, none => .ret v
        | none, some h => .req (0 ≤ h ∧ h ≤ lenL ts off len) (.ret (.sl k off (some h.toNat)))
        | some l, none => match len with
          | none => .req (0 ≤ l ∧ l ≤ lenL ts off len) (.ret (.sl k (Nat.add off l.toNat) none))
          | some n => .req (0 ≤ l ∧ l ≤ n) (.ret (.sl k (Nat.add off l.toNat) (some (Nat.sub n l.toNat))))
        | some l, some h => .req (0 ≤ l ∧ l ≤ h ∧ h ≤ lenL ts off len) (.ret (.sl k (Nat.add off l.toNat) (some (h - l).toNat))))
      | _ => .no
    | .t .nils => match l, h with
      | none, none => .ret (.t .nils)
      | none, some h => .req (h = 0) (.ret (.t .nils))
      | some l, none => .req (l = 0) (.ret (.t .nils))
      | some l, some h => .req (l = 0 ∧ h = 0) (.ret (.t .nils))
    | v => listFP v fun sz' xs => match l, h with
        | none, none => .ret v
        | none, some h => .req (0 ≤ h ∧ h ≤ xs.length ∧ (xs = [] ∨ sz' = sz)) (.ret (.t (.list sz (xs.take h.toNat))))
        | some l, none => .req (0 ≤ l ∧ l ≤ xs.length ∧ (xs = [] ∨ sz' = sz)) (.ret (.t (.list sz (xs.drop l.toNat))))
        | some l, some h => .req (0 ≤ l ∧ l ≤ h ∧ h ≤ xs.length ∧ (xs = [] ∨ sz' = sz)) (.ret (.t (.list sz ((xs.drop l.toNat).take (h.toNat - l.toNat)))))
  | .slp sz n _ lo hi, v :: vs => bndP lo vs fun l vs => bndP hi vs fun h _ => match v with
    | .ptr k 0 => .rd k fun b => match b with
      | .lst sz' ts 0 => natP (Nat.beq sz' sz) (.req (ts.length = n) (match l, h with
        | none, none => .ret (.sl k 0 (some n))
        | none, some h => .req (0 ≤ h ∧ h ≤ n) (.ret (.sl k 0 (some h.toNat)))
        | some l, none => .req (0 ≤ l ∧ l ≤ n) (.ret (.sl k l.toNat (some (n - l.toNat))))
        | some l, some h => .req (0 ≤ l ∧ l ≤ h ∧ h ≤ n) (.ret (.sl k l.toNat (some (h - l).toNat)))))
      | _ => .no
    | _ => .no
  | .clip sz _ _ _, [v, h, m] => intP h fun h => intP m fun m => listFP v fun sz' xs => .req (h = m ∧ 0 ≤ h ∧ h ≤ xs.length ∧ (xs = [] ∨ sz' = sz)) (.ret (.cl sz (xs.take h.toNat)))
  | .ixv len _ _, [v, i] => intP i fun z => match v with
    | .t (.agg cs) => .nth cs z fun y => .req (z < len) (.ret (.t y))
    | _ => .no
  | .app key sz bytes _ _, [s, x] => listP x fun sz' xs => .req (xs = [] ∨ sz' = sz) (appTo (keyB base key) sz bytes s xs)
  | .appz key sz bytes z _ _, [s, n] => intP n fun n => .req (0 ≤ n ∧ n * bytes ≤ maxBytes) (appTo (keyB base key) sz bytes s (List.replicate n.toNat z))
  | .mks key sz bytes z _, [n] => intP n fun n => .req (0 ≤ n ∧ n * bytes ≤ maxBytes) (.new (keyB base key) (.lst sz (List.replicate n.toNat z) 0) (.ret (.sl (keyB base key) 0 none)))
  | .mkf f first _, vs => .ret (.fn f (vs.take first.length) (vs.drop first.length))
  | .mkm key, [] => .new (keyB base key) (.map true []) (.ret (.mp (keyB base key)))
  | .ins s _ _ _, [m, k, v] => match m, k with
    | .mp r, .t k => oneVP v (.rd r fun b => match b with
      | .map _ es => .req (keyNew s k es) (.wr r (.map false (es ++ [(k, v)])) (.ret (.t .undef)))
      | _ => .no)
    | _, _ => .no
  | .lkp s z ok _ _, [m, k] => match m, k with
    | .mp r, .t k => .rd r fun b => match b with
      | .map _ es => findP s k (.t z) es (okP ok)
      | _ => .no
    | .t .nilmap, .t _ => okP ok (.t z) false
    | _, _ => .no
  | .lkpi _ _, [m, k] => match m, k with
    | .mp r, .t (.int .i64 z) => .rd r fun b => match b with
      | .map _ es => .req (miB es = true) (.ret (.t (.int .i64 (getMi es z))))
      | _ => .no
    | _, _ => .no
  | .updi _ _ _, [m, k, v] => match m, k, v with
    | .mp r, .t (.int .i64 z), .t (.int .i64 n) => .rd r fun b => match b with
      | .map nr es => .req (miB es = true) (.wr r (.map nr (putMi es z n)) (.ret (.t .undef)))
      | _ => .no
    | _, _, _ => .no
  | .mki t _, [v] => match v with
    | .t y => .ret (.t (.ifc t y))
    | _ => .no
  | .tas t z ok _, [v] => match ok, v with
    | true, .t (.ifc t' y) => match Nat.beq t' t with
      | true => .ret (.t (.tup [y, .bool true]))
      | false => .ret (.t (.tup [z, .bool false]))
    | true, .t .nilif => .ret (.t (.tup [z, .bool false]))
    | false, .t (.ifc t' y) => natP (Nat.beq t' t) (.ret (.t y))
    | _, _ => .no
  | .isi neg _, [v] => match v with
    | .t .nilif => .ret (.t (.bool (!neg)))
    | .t (.ifc _ _) => .ret (.t (.bool neg))
    | _ => .no
  | .capn _, [v] => match v with
    | .t .nils => .ret (.t (.int .i64 0))
    | .ce => .ret (.t (.int .i64 0))
    | _ => .no
  | .clr sz z _, [v] => match v with
    | .t .nils => .ret (.t .undef)
    | .ce => .ret (.t .undef)
    | .sl k off len => .rd k fun b => match b with
      | .lst sz' ts m => match m with
        | 0 => natP (Nat.beq sz' sz) (.wr k (.lst sz (putL ts off (List.replicate (lenL ts off len).toNat z)) 0) (.ret (.t .undef)))
        | _ => .no
      | _ => .no
    | _ => .no
  | .cpy sz _ _, [d, x] => listP x fun sz' xs => match d with
    | .t .nils => .ret (.t (.int .i64 0))
    | .ce => .ret (.t (.int .i64 0))
    | .sl k off len => .rd k fun b => match b with
      | .lst sz2 ts m => match m with
        | 0 => natP (Nat.beq sz2 sz) (.req (xs = [] ∨ sz' = sz) (.wr k (.lst sz (putL ts off (xs.take (lenL ts off len).toNat)) 0) (.ret (.t (.int .i64 (minI xs.length (lenL ts off len)))))))
        | _ => .no
      | _ => .no
    | _ => .no
  | _, _ => .no

def opds : MK → List Opd
  | .mv x | .box _ x | .boxa _ x | .ld _ x | .nilc x | .fa _ x | .fld _ _ x | .ixk _ _ x _ | .isn _ _ x | .un _ x | .conv _ x | .cvs x | .cvb x | .ext x _ | .lens x | .len x | .mks _ _ _ _ x | .capn x | .clr _ _ x => [x]
  | .pick c a b | .clip _ c a b | .ins _ c a b | .updi c a b => [c, a, b]
  | .alloc _ _ | .alloca _ _ | .mkm _ | .stop => []
  | .pan x | .mki _ x | .tas _ _ _ x | .isi _ x => [x]
  | .st _ a x | .ixa _ _ a x | .ixs _ a x | .ixstr a x | .bin _ a x | .binb _ a x | .eqa _ _ a x | .mx a x | .mn a x | .ixv _ a x | .app _ _ _ a x | .appz _ _ _ _ a x | .lkp _ _ _ a x | .lkpi a x | .cpy _ a x => [a, x]
  | .bld _ ps => ps.map (·.2.2)
  | .bslt _ xs => xs
  | .slstr x lo hi | .sll _ x lo hi | .slp _ _ x lo hi => x :: (lo.toList ++ hi.toList)
  | .mkf _ a b => a ++ b
  | .call _ f as => f :: as

def calleeK (v : V) (K : Nat → List V → List V → Prop) : Prop := match v with
  | .t (.fn (.func n) first caps) => tagK first fun a => tagK caps fun b => K n a b
  | .fn (.func n) first caps => K n first caps
  | _ => False
def inlQ (b dr : Bool) : Bool := match b with
  | true => match dr with
    | true => false
    | false => true
  | false => false
theorem inlQ_dr (b : Bool) : inlQ b true = false := by cases b <;> rfl
theorem inlQ_true {b dr : Bool} (h : inlQ b dr = true) : b = true ∧ dr = false := by cases b <;> cases dr <;> simp [inlQ] at h ⊢
mutual
def vRefs : V → List Nat
  | .ptr k _ | .eptr k _ _ | .sl k _ _ | .mp k => [k]
  | .fn _ a b => vsRefs a ++ vsRefs b
  | .agg l | .tup l => vsRefs l
  | _ => []
def vsRefs : List V → List Nat
  | [] => []
  | v :: r => vRefs v ++ vsRefs r
end
def esRefs : List (T × V) → List Nat
  | [] => []
  | e :: r => vRefs e.2 ++ esRefs r
def bRefs : Blk → List Nat
  | .cells cs => vsRefs cs
  | .map nr es => match nr with
    | true => []
    | false => esRefs es
  | _ => []
def allIn (m : List Nat) : List Nat → Bool
  | [] => true
  | k :: r => match notIn k m with
    | true => false
    | false => allIn m r
def ownClosed (m : List Nat) : Own → Bool
  | [] => true
  | p :: r => match notIn p.1 m with
    | true => ownClosed m r
    | false => match allIn m (bRefs p.2) with
      | true => ownClosed m r
      | false => false
def DrOk (args : List V) (own1 own : Own) (v : V) : Prop := vRefs v = [] ∧ (∀ p ∈ own1, lkupK p.1 own fun b => b = p.2) ∧ allIn (own1.map (·.1)) (vsRefs args) = true ∧ ownClosed (own1.map (·.1)) own1 = true
@[irreducible] def drK (D : Own → V → Prop) : Prop := ∃ own1 v, D own1 v
theorem drK_of {D : Own → V → Prop} (own1 : Own) (v : V) (h : D own1 v) : drK D := by unfold drK; exact ⟨own1, v, h⟩
theorem drK_elim {D : Own → V → Prop} (h : drK D) : ∃ own1 v, D own1 v := by unfold drK at h; exact h
def inlD (a b dr : Bool) : Bool := match a with
  | true => match b with
    | true => dr
    | false => false
  | false => false
theorem inlD_true {a b dr : Bool} (h : inlD a b dr = true) : a = true ∧ dr = true := by cases a <;> cases b <;> simp [inlD] at h ⊢ <;> exact h
noncomputable def stepK (Γ : Env) (dr : Bool) (d : Option Nat) (st : St) (op : MK) (K : St → Log → Prop) : Prop := match st with
  | ⟨tm, own⟩ => evsK Γ tm (opds op) fun vs => match op with
    | .call key _ _ => match vs with
      | [] => False
      | fv :: args => calleeK fv fun n first caps => match inlQ (Γ.isI n) dr with
        | true => Γ.pt n (Nat.mul (keyB Γ.base key) 1024) (first ++ (args ++ caps)) own fun v own' => putK ⟨tm, own'⟩ d v fun st => K st []
        | false => match inlD (Γ.isI n) (Γ.isD n) dr with
          | true => drK fun own1 v => DrOk (first ++ (args ++ caps)) own1 own v ∧ Γ.pt n (Nat.mul (keyB Γ.base key) 1024) (first ++ (args ++ caps)) own1 (fun v' own' => v' = v ∧ own' = own1) ∧ putK ⟨tm, own⟩ d v fun st => K st (own1.map fun p => (p.1, false))
          | false => run dr (callP (Γ.fn n) (first ++ (args ++ caps)) (keyB Γ.base key)) own [] fun v own' log => putK ⟨tm, own'⟩ d v fun st => K st log
    | op => run dr (prog Γ.base op vs) own [] fun v own' log => putK ⟨tm, own'⟩ d v fun st => K st log

mutual
def renV (k k0 : Nat) : V → V
  | .ptr j o => .ptr (match Nat.beq j k with | true => k0 | false => j) o
  | .eptr j i o => .eptr (match Nat.beq j k with | true => k0 | false => j) i o
  | .sl j o l => .sl (match Nat.beq j k with | true => k0 | false => j) o l
  | .mp j => .mp (match Nat.beq j k with | true => k0 | false => j)
  | .fn f a b => .fn f (renVs k k0 a) (renVs k k0 b)
  | .agg l => .agg (renVs k k0 l)
  | .tup l => .tup (renVs k k0 l)
  | v => v
def renVs (k k0 : Nat) : List V → List V
  | [] => []
  | v :: r => renV k k0 v :: renVs k k0 r
end
def renEs (k k0 : Nat) : List (T × V) → List (T × V)
  | [] => []
  | e :: r => (e.1, renV k k0 e.2) :: renEs k k0 r
def renB (k k0 : Nat) : Blk → Blk
  | .cells cs => .cells (renVs k k0 cs)
  | .map nr es => .map nr (match nr with
    | true => es
    | false => renEs k k0 es)
  | b => b
def renOwn (k k0 : Nat) : Own → Own
  | [] => []
  | p :: r => ((match Nat.beq p.1 k with | true => k0 | false => p.1), renB k k0 p.2) :: renOwn k k0 r
def pushK : List Nat → List Nat → (List Nat → Prop) → Prop
  | [], m, K => K m
  | x :: r, m, K => match notIn x m with
    | true => pushK r (x :: m) K
    | false => pushK r m K
def reachK (K : List Nat → Prop) : Own → List Nat → Prop
  | [], m => K m
  | p :: r, m => match notIn p.1 m with
    | true => reachK K r m
    | false => pushK (bRefs p.2) m fun m' => reachK K r m'
def marksK (own : Own) (K : List Nat → Prop) : Own → List Nat → Prop
  | [], m => K m
  | _ :: r, m => reachK (fun m' => marksK own K r m') own m
def keepK (m : List Nat) : Own → (Own → Prop) → Prop
  | [], K => K []
  | p :: r, K => match p with
    | (j, b) => match notIn j m with
      | true => keepK m r K
      | false => keepK m r fun r' => K ((j, b) :: r')
def gcK (roots : List Nat) (own : Own) (K : Own → Prop) : Prop :=
  pushK roots [] fun m0 => marksK own (fun m => natK (allIn m roots) (natK (ownClosed m own) (keepK m own K))) own m0
inductive Nz where
  | kill (i : Nat)
  | gc
  | ren (k k0 : Nat)
  | adopt (i k sz : Nat)
  | keep (m : List Nat)
  | set (k : Nat)
def nz1K (prot : List Nat) (z : Nz) (st : St) (K : St → Prop) : Prop := match st with
  | ⟨tm, own⟩ => match z with
    | .kill i => setK tm i .dead fun tm' => K ⟨tm', own⟩
    | .gc => gcK (vsRefs tm ++ prot) own fun own' => K ⟨tm, own'⟩
    | .ren k k0 => natK (notIn k prot) (freshK k0 own (K ⟨renVs k k0 tm, renOwn k k0 own⟩))
    | .adopt i k sz => getK tm i fun v => match v with
      | .t .nils => freshK k own (setK tm i (.sl k 0 none) fun tm' => K ⟨tm', (k, .lst sz [] 1) :: own⟩)
      | .ce => freshK k own (setK tm i (.sl k 0 none) fun tm' => K ⟨tm', (k, .lst sz [] 1) :: own⟩)
      | _ => False
    | .keep m => natK (allIn m (vsRefs tm ++ prot)) (natK (ownClosed m own) (keepK m own fun own' => K ⟨tm, own'⟩))
    | .set k => lkupK k own fun b => match b with
      | .lst sz ts 0 => updK k (.lst sz ts 1) own fun own' => K ⟨tm, own'⟩
      | _ => False
def nzK (prot : List Nat) : List Nz → St → (St → Prop) → Prop
  | [], st, K => K st
  | z :: r, st, K => nz1K prot z st fun st' => nzK prot r st' K

@[irreducible] def loopK (prot : List Nat) (W : St → (Ex → St → Prop) → Prop) (st : St) (K : Ex → St → Prop) : Prop :=
  ∃ (n1 : List Nz) (n2 : St → List Nz) (I : St → Prop) (μ : St → Nat), nzK prot n1 st I ∧ ∀ s, I s → W s fun e s' => match e with
    | .normal => nzK prot (n2 s') s' fun s'' => I s'' ∧ μ s'' < μ s
    | e => K e s'
theorem loopK_elim {prot : List Nat} {W : St → (Ex → St → Prop) → Prop} {st : St} {K : Ex → St → Prop} (h : loopK prot W st K) :
    ∃ (n1 : List Nz) (n2 : St → List Nz) (I : St → Prop) (μ : St → Nat), nzK prot n1 st I ∧ ∀ s, I s → W s fun e s' => match e with
    | .normal => nzK prot (n2 s') s' fun s'' => I s'' ∧ μ s'' < μ s
    | e => K e s' := by unfold loopK at h; exact h

def meets (k : Nat) (b : Bool) : Log → Bool
  | [] => false
  | p :: r => match p with
    | (j, c) => match Nat.beq j k with
      | true => match b with
        | true => true
        | false => match c with
          | true => true
          | false => meets k b r
      | false => meets k b r
def apartK (l m : Log) : Bool := match l with
  | [] => true
  | p :: r => match p with
    | (k, b) => match meets k b m with
      | true => false
      | false => apartK r m
def nthL : List Log → Nat → Log
  | [], _ => []
  | x :: _, 0 => x
  | _ :: r, n + 1 => nthL r n
def chkPairs (log : List Log) : List (Nat × Nat) → Bool
  | [] => true
  | p :: r => match apartK (nthL log p.1) (nthL log p.2) with
    | true => chkPairs log r
    | false => false
def revL : List Log → List Log → List Log
  | [], acc => acc
  | x :: r, acc => revL r (x :: acc)
noncomputable def runD (Γ : Env) (ops : List MOp) : St → List Log → (St → List Log → Prop) → Prop :=
  List.rec (motive := fun _ => St → List Log → (St → List Log → Prop) → Prop) (fun st log K => K st (revL log []))
    (fun o _ ih st log K => match o with
      | ⟨d, op, g⟩ => match g with
        | none => stepK Γ true d st op fun st' ks => ih st' (ks :: log) K
        | some p => match p with
          | (t, want) => match st with
            | ⟨tm, own⟩ => getK tm t fun v => match v with
              | .t (.bool b) => match want with
                | true => brK b (stepK Γ true d ⟨tm, own⟩ op fun st ks => ih st (ks :: log) K) (putK ⟨tm, own⟩ d (.t .undef) fun st => ih st ([] :: log) K)
                | false => brK b (putK ⟨tm, own⟩ d (.t .undef) fun st => ih st ([] :: log) K) (stepK Γ true d ⟨tm, own⟩ op fun st ks => ih st (ks :: log) K)
              | .t (.tup _) => putK ⟨tm, own⟩ d (.t .undef) fun st => ih st ([] :: log) K
              | _ => False) ops
def pnF : List (Nat × (List T → AnsP)) → Opd → Option (List T → AnsP)
  | [], _ => none
  | p :: r, f => match f with
    | .k (.fn (.func n) first caps) => match first, caps with
      | [], [] => match Nat.beq p.1 n with
        | true => some p.2
        | false => pnF r f
      | _, _ => none
    | _ => none
noncomputable def stepP (Γ : Env) (d : Option Nat) (st : St) (op : MK) (K : Ex → St → Prop) : Prop := match op with
  | .call key f as => match pnF Γ.pn f with
    | some g => match st with
      | ⟨tm, own⟩ => evsK Γ tm as fun vs => run false (callP (encP g) vs (keyB Γ.base key)) own [] fun v own' _ => match v with
        | .t (.tup [.bool c, x, .tup ys]) => brK c (putK ⟨tm, own'⟩ d (.t x) fun st => K .normal st) (K (.pan ys.head?) ⟨tm, own'⟩)
        | _ => False
    | none => stepK Γ false d st op fun st _ => K .normal st
  | .pan x => match st with
    | ⟨tm, own⟩ => evK Γ tm x fun v => match v with
      | .t (.ifc t y) => K (.pan (some (.ifc t y))) ⟨tm, own⟩
      | _ => False
  | .tas t z ok x => match ok with
    | true => stepK Γ false d st op fun st _ => K .normal st
    | false => match st with
      | ⟨tm, own⟩ => evK Γ tm x fun v => match v with
        | .t (.ifc t' y) => match Nat.beq t' t with
          | true => stepK Γ false d ⟨tm, own⟩ op fun st _ => K .normal st
          | false => K (.pan none) ⟨tm, own⟩
        | .t .nilif => K (.pan none) ⟨tm, own⟩
        | _ => False
  | op => stepK Γ false d st op fun st _ => K .normal st
noncomputable def runOps (Γ : Env) (ops : List MOp) : St → (Ex → St → Prop) → Prop :=
  List.rec (motive := fun _ => St → (Ex → St → Prop) → Prop) (fun st K => K .normal st)
    (fun o _ ih st K => match o with
      | ⟨d, op, g⟩ => match g with
        | none => stepP Γ d st op fun e st => match e with
          | .normal => ih st K
          | e => K e st
        | some p => match p with
          | (t, want) => match st with
            | ⟨tm, own⟩ => getK tm t fun v => match v with
              | .t (.bool b) => match want with
                | true => brK b (stepP Γ d ⟨tm, own⟩ op fun e st => match e with
                  | .normal => ih st K
                  | e => K e st) (putK ⟨tm, own⟩ d (.t .undef) fun st => ih st K)
                | false => brK b (putK ⟨tm, own⟩ d (.t .undef) fun st => ih st K) (stepP Γ d ⟨tm, own⟩ op fun e st => match e with
                  | .normal => ih st K
                  | e => K e st)
              | .t (.tup _) => putK ⟨tm, own⟩ d (.t .undef) fun st => ih st K
              | _ => False) ops
theorem runOps_nil (Γ : Env) (st : St) (K : Ex → St → Prop) : runOps Γ [] st K = K .normal st := rfl
theorem runOps_cons (Γ : Env) (o : MOp) (os : List MOp) (st : St) (K : Ex → St → Prop) : runOps Γ (o :: os) st K = (match o with
    | ⟨d, op, g⟩ => match g with
      | none => stepP Γ d st op fun e st => match e with
        | .normal => runOps Γ os st K
        | e => K e st
      | some p => match p with
        | (t, want) => match st with
          | ⟨tm, own⟩ => getK tm t fun v => match v with
            | .t (.bool b) => match want with
              | true => brK b (stepP Γ d ⟨tm, own⟩ op fun e st => match e with
                | .normal => runOps Γ os st K
                | e => K e st) (putK ⟨tm, own⟩ d (.t .undef) fun st => runOps Γ os st K)
              | false => brK b (putK ⟨tm, own⟩ d (.t .undef) fun st => runOps Γ os st K) (stepP Γ d ⟨tm, own⟩ op fun e st => match e with
                | .normal => runOps Γ os st K
                | e => K e st)
            | .t (.tup _) => putK ⟨tm, own⟩ d (.t .undef) fun st => runOps Γ os st K
            | _ => False) := rfl
theorem runD_nil (Γ : Env) (st : St) (log : List Log) (K : St → List Log → Prop) : runD Γ [] st log K = K st (revL log []) := rfl
theorem runD_cons (Γ : Env) (o : MOp) (os : List MOp) (st : St) (log : List Log) (K : St → List Log → Prop) : runD Γ (o :: os) st log K = (match o with
    | ⟨d, op, g⟩ => match g with
      | none => stepK Γ true d st op fun st' ks => runD Γ os st' (ks :: log) K
      | some p => match p with
        | (t, want) => match st with
          | ⟨tm, own⟩ => getK tm t fun v => match v with
            | .t (.bool b) => match want with
              | true => brK b (stepK Γ true d ⟨tm, own⟩ op fun st ks => runD Γ os st (ks :: log) K) (putK ⟨tm, own⟩ d (.t .undef) fun st => runD Γ os st ([] :: log) K)
              | false => brK b (putK ⟨tm, own⟩ d (.t .undef) fun st => runD Γ os st ([] :: log) K) (stepK Γ true d ⟨tm, own⟩ op fun st ks => runD Γ os st (ks :: log) K)
            | .t (.tup _) => putK ⟨tm, own⟩ d (.t .undef) fun st => runD Γ os st ([] :: log) K
            | _ => False) := rfl

def mayP (Γ : Env) (o : MOp) : Bool := match o with
  | ⟨_, op, g⟩ => match g with
    | none => match op with
      | .call _ f _ => match pnF Γ.pn f with
        | some _ => true
        | none => false
      | .tas _ _ ok _ => match ok with
        | true => false
        | false => true
      | _ => false
    | some _ => false
def anyP (Γ : Env) : List MOp → Bool
  | [] => false
  | o :: r => match mayP Γ o with
    | true => true
    | false => anyP Γ r
def pureK : List V → (List T → Prop) → Prop
  | [], K => K []
  | v :: r, K => match v with
    | .t x => pureK r fun l => K (x :: l)
    | _ => False
def inH (t : Nat) : List Nat → Bool
  | [] => false
  | j :: r => match Nat.beq j t with
    | true => true
    | false => inH t r
def anyH (hs : List Nat) : List Opd → Bool
  | [] => false
  | x :: r => match x with
    | .t i => match inH i hs with
      | true => true
      | false => anyH hs r
    | _ => anyH hs r
def holeQ (hs : List Nat) (o : MOp) : Bool := match o with
  | ⟨_, op, g⟩ => match g with
    | none => anyH hs (opds op)
    | some p => match inH p.1 hs with
      | true => true
      | false => anyH hs (opds op)
def addH (d : Option Nat) (hs : List Nat) : List Nat := match d with
  | none => hs
  | some i => i :: hs
noncomputable def runH (Γ : Env) (ops : List MOp) : List Nat → St → List Log → (List Log → Prop) → Prop :=
  List.rec (motive := fun _ => List Nat → St → List Log → (List Log → Prop) → Prop) (fun _ st log K => K (revL log []))
    (fun o _ ih hs st log K => match holeQ hs o with
      | true => match o with
        | ⟨d, op, g⟩ => putK st d .dead fun st => ih (addH d hs) st ([] :: log) K
      | false => match o with
        | ⟨d, op, g⟩ => match g with
          | none => stepK Γ true d st op fun st' ks => ih hs st' (ks :: log) K
          | some p => match p with
            | (t, want) => match st with
              | ⟨tm, own⟩ => getK tm t fun v => match v with
                | .t (.bool b) => match want with
                  | true => brK b (stepK Γ true d ⟨tm, own⟩ op fun st ks => ih hs st (ks :: log) K) (putK ⟨tm, own⟩ d (.t .undef) fun st => ih hs st ([] :: log) K)
                  | false => brK b (putK ⟨tm, own⟩ d (.t .undef) fun st => ih hs st ([] :: log) K) (stepK Γ true d ⟨tm, own⟩ op fun st ks => ih hs st (ks :: log) K)
                | .t (.tup _) => putK ⟨tm, own⟩ d (.t .undef) fun st => ih hs st ([] :: log) K
                | _ => False) ops
theorem runH_nil (Γ : Env) (hs : List Nat) (st : St) (log : List Log) (K : List Log → Prop) : runH Γ [] hs st log K = K (revL log []) := rfl
theorem runH_cons (Γ : Env) (o : MOp) (os : List MOp) (hs : List Nat) (st : St) (log : List Log) (K : List Log → Prop) : runH Γ (o :: os) hs st log K = (match holeQ hs o with
    | true => match o with
      | ⟨d, op, g⟩ => putK st d .dead fun st => runH Γ os (addH d hs) st ([] :: log) K
    | false => match o with
      | ⟨d, op, g⟩ => match g with
        | none => stepK Γ true d st op fun st' ks => runH Γ os hs st' (ks :: log) K
        | some p => match p with
          | (t, want) => match st with
            | ⟨tm, own⟩ => getK tm t fun v => match v with
              | .t (.bool b) => match want with
                | true => brK b (stepK Γ true d ⟨tm, own⟩ op fun st ks => runH Γ os hs st (ks :: log) K) (putK ⟨tm, own⟩ d (.t .undef) fun st => runH Γ os hs st ([] :: log) K)
                | false => brK b (putK ⟨tm, own⟩ d (.t .undef) fun st => runH Γ os hs st ([] :: log) K) (stepK Γ true d ⟨tm, own⟩ op fun st ks => runH Γ os hs st (ks :: log) K)
              | .t (.tup _) => putK ⟨tm, own⟩ d (.t .undef) fun st => runH Γ os hs st ([] :: log) K
              | _ => False) := rfl
noncomputable def panK (Γ : Env) (d : Option Nat) (st : St) (op : MK) (A : St → Prop) (B : Option T → Prop) : Prop := match op with
  | .call _ f as => match pnF Γ.pn f with
    | some g => match st with
      | ⟨tm, own⟩ => evsK Γ tm as fun vs => pureK vs fun ts => match g ts with
        | .br p c x y => reqK p (brK c (putK ⟨tm, own⟩ d (.t x) A) (B y))
        | .no => False
    | none => False
  | .tas t _ ok x => match ok with
    | true => False
    | false => match st with
      | ⟨tm, own⟩ => evK Γ tm x fun v => match v with
        | .t (.ifc t' y) => match Nat.beq t' t with
          | true => putK ⟨tm, own⟩ d (.t y) A
          | false => B none
        | .t .nilif => B none
        | _ => False
  | _ => False
noncomputable def runE (Γ : Env) (ops : List MOp) : St → List Log → (St → List Log → Prop) → (Option T → List Log → Prop) → Prop :=
  List.rec (motive := fun _ => St → List Log → (St → List Log → Prop) → (Option T → List Log → Prop) → Prop) (fun st log K _ => K st (revL log []))
    (fun o rest ih st log K KP => match mayP Γ o with
      | true => match o with
        | ⟨d, op, g⟩ => panK Γ d st op (fun st => ih st ([] :: log) K KP) fun y => putK st d .dead fun st => runH Γ rest (addH d []) st ([] :: log) (KP y)
      | false => match o with
        | ⟨d, op, g⟩ => match g with
          | none => stepK Γ true d st op fun st' ks => ih st' (ks :: log) K KP
          | some p => match p with
            | (t, want) => match st with
              | ⟨tm, own⟩ => getK tm t fun v => match v with
                | .t (.bool b) => match want with
                  | true => brK b (stepK Γ true d ⟨tm, own⟩ op fun st ks => ih st (ks :: log) K KP) (putK ⟨tm, own⟩ d (.t .undef) fun st => ih st ([] :: log) K KP)
                  | false => brK b (putK ⟨tm, own⟩ d (.t .undef) fun st => ih st ([] :: log) K KP) (stepK Γ true d ⟨tm, own⟩ op fun st ks => ih st (ks :: log) K KP)
                | .t (.tup _) => putK ⟨tm, own⟩ d (.t .undef) fun st => ih st ([] :: log) K KP
                | _ => False) ops
theorem runE_nil (Γ : Env) (st : St) (log : List Log) (K : St → List Log → Prop) (KP : Option T → List Log → Prop) : runE Γ [] st log K KP = K st (revL log []) := rfl
theorem runE_cons (Γ : Env) (o : MOp) (os : List MOp) (st : St) (log : List Log) (K : St → List Log → Prop) (KP : Option T → List Log → Prop) : runE Γ (o :: os) st log K KP = (match mayP Γ o with
    | true => match o with
      | ⟨d, op, g⟩ => panK Γ d st op (fun st => runE Γ os st ([] :: log) K KP) fun y => putK st d .dead fun st => runH Γ os (addH d []) st ([] :: log) (KP y)
    | false => match o with
      | ⟨d, op, g⟩ => match g with
        | none => stepK Γ true d st op fun st' ks => runE Γ os st' (ks :: log) K KP
        | some p => match p with
          | (t, want) => match st with
            | ⟨tm, own⟩ => getK tm t fun v => match v with
              | .t (.bool b) => match want with
                | true => brK b (stepK Γ true d ⟨tm, own⟩ op fun st ks => runE Γ os st (ks :: log) K KP) (putK ⟨tm, own⟩ d (.t .undef) fun st => runE Γ os st ([] :: log) K KP)
                | false => brK b (putK ⟨tm, own⟩ d (.t .undef) fun st => runE Γ os st ([] :: log) K KP) (stepK Γ true d ⟨tm, own⟩ op fun st ks => runE Γ os st (ks :: log) K KP)
              | .t (.tup _) => putK ⟨tm, own⟩ d (.t .undef) fun st => runE Γ os st ([] :: log) K KP
              | _ => False) := rfl
def quietO : Log → Bool
  | [] => true
  | p :: r => match p.2 with
    | true => false
    | false => quietO r
def quietL : List Log → Bool
  | [] => true
  | l :: r => match quietO l with
    | true => quietL r
    | false => false
def deadK : List MOp → List V → (List V → Prop) → Prop
  | [], tm, K => K tm
  | o :: r, tm, K => match o.d with
    | none => deadK r tm K
    | some i => setK tm i .dead fun tm' => deadK r tm' K

noncomputable def wpx (Γ : Env) (c : MC) : St → (Ex → St → Prop) → Prop :=
  MC.rec (motive := fun _ => St → (Ex → St → Prop) → Prop)
    (fun st K => K .normal st)
    (fun ops dr st K => match dr with
      | none => runOps Γ ops st K
      | some ps => match anyP Γ ops with
        | false => runD Γ ops st [] fun st log => natK (chkPairs log ps) (K .normal st)
        | true => match st with
          | ⟨tm, own⟩ => runE Γ ops ⟨tm, own⟩ [] (fun st log => natK (chkPairs log ps) (K .normal st)) fun y log => natK (quietL log) (deadK ops tm fun tm' => K (.pan y) ⟨tm', own⟩))
    (fun _ _ iha ihb st K => iha st fun e st => match e with
      | .normal => ihb st K
      | e => K e st)
    (fun c _ _ iha ihb st K => match st with
      | ⟨tm, own⟩ => evK Γ tm c fun v => match v with
        | .t (.bool x) => brK x (iha ⟨tm, own⟩ K) (ihb ⟨tm, own⟩ K)
        | _ => False)
    (fun id _ ih st K => ih st fun e st => match e with
      | .exit j => match Nat.beq j id with
        | true => K .normal st
        | false => K (.exit j) st
      | e => K e st)
    (fun _ ih st K => loopK Γ.prot ih st K)
    (fun id st K => K (.exit id) st)
    (fun st K => K .ret st) c
theorem wpx_skip (Γ : Env) (st : St) (K : Ex → St → Prop) : wpx Γ .skip st K = K .normal st := rfl
theorem wpx_reg (Γ : Env) (ops : List MOp) (dr : Option (List (Nat × Nat))) (st : St) (K : Ex → St → Prop) : wpx Γ (.reg ops dr) st K = (match dr with
    | none => runOps Γ ops st K
    | some ps => match anyP Γ ops with
      | false => runD Γ ops st [] fun st log => natK (chkPairs log ps) (K .normal st)
      | true => match st with
        | ⟨tm, own⟩ => runE Γ ops ⟨tm, own⟩ [] (fun st log => natK (chkPairs log ps) (K .normal st)) fun y log => natK (quietL log) (deadK ops tm fun tm' => K (.pan y) ⟨tm', own⟩)) := rfl
theorem wpx_seq (Γ : Env) (a b : MC) (st : St) (K : Ex → St → Prop) : wpx Γ (.seq a b) st K = wpx Γ a st fun e st => match e with
    | .normal => wpx Γ b st K
    | e => K e st := rfl
theorem wpx_cond (Γ : Env) (c : Opd) (a b : MC) (st : St) (K : Ex → St → Prop) : wpx Γ (.cond c a b) st K = (match st with
    | ⟨tm, own⟩ => evK Γ tm c fun v => match v with
      | .t (.bool x) => brK x (wpx Γ a ⟨tm, own⟩ K) (wpx Γ b ⟨tm, own⟩ K)
      | _ => False) := rfl
theorem wpx_block (Γ : Env) (id : Nat) (b : MC) (st : St) (K : Ex → St → Prop) : wpx Γ (.block id b) st K = wpx Γ b st fun e st => match e with
    | .exit j => match Nat.beq j id with
      | true => K .normal st
      | false => K (.exit j) st
    | e => K e st := rfl
theorem wpx_loop (Γ : Env) (b : MC) (st : St) (K : Ex → St → Prop) : wpx Γ (.loop b) st K = loopK Γ.prot (wpx Γ b) st K := rfl
theorem wpx_exit (Γ : Env) (id : Nat) (st : St) (K : Ex → St → Prop) : wpx Γ (.exit id) st K = K (.exit id) st := rfl
theorem wpx_ret (Γ : Env) (st : St) (K : Ex → St → Prop) : wpx Γ .ret st K = K .ret st := rfl

inductive Res where
  | tmp (t : Nat)
  | cell (t : Nat) (n : Option Nat)
structure MFn where
  np : Nat
  nt : Nat
  res : List Res
  body : MC
def takeK {α : Type} : List α → Nat → Nat → (List α → Prop) → Prop
  | _, _, 0, K => K []
  | [], _, _ + 1, _ => False
  | x :: r, 0, n + 1, K => takeK r 0 n fun l => K (x :: l)
  | _ :: r, o + 1, n + 1, K => takeK r o (n + 1) K
def rdK (cs : List V) (off : Nat) (n : Option Nat) (K : V → Prop) : Prop := match n with
  | none => getK cs off K
  | some n => takeK cs off n fun l => K (aggV l)
def lstResK (sz off m : Nat) (n : Option Nat) (ts : List T) (K : V → Prop) : Prop := match sz, off, m, n with
  | 1, 0, 0, some n => reqK (ts.length = n ∧ ∀ x ∈ ts, x.one = true) (K (.t (.agg ts)))
  | _, _, _, _ => False
def resK (st : St) : List Res → (List V → Prop) → Prop
  | [], K => K []
  | r :: rs, K => match st with
    | ⟨tm, own⟩ => match r with
      | .tmp t => getK tm t fun v => resK ⟨tm, own⟩ rs fun l => K (v :: l)
      | .cell t n => getK tm t fun v => match v with
        | .ptr k off => lkupK k own fun b => match b with
          | .cells cs => rdK cs off n fun v => resK ⟨tm, own⟩ rs fun l => K (v :: l)
          | .lst sz ts m => lstResK sz off m n ts fun v => resK ⟨tm, own⟩ rs fun l => K (v :: l)
          | _ => False
        | _ => False
def oneV (l : List V) : V := match l with
  | [x] => x
  | [] => .t (.tup [])
  | x :: y :: r => tupV (x :: y :: r)
def padK : Nat → (List V → Prop) → Prop
  | 0, K => K []
  | n + 1, K => padK n fun l => K (.dead :: l)
def initK : List V → Nat → (List V → Prop) → Prop
  | [], n, K => padK n K
  | x :: r, n, K => initK r n fun l => K (x :: l)
def endK (e : Ex) (K : Prop) : Prop := match e with
  | .normal => K
  | .ret => K
  | .exit _ => False
  | .pan _ => False
noncomputable def fnK (Γ : Env) (m : MFn) (args : List T) (K : T → Prop) : Prop :=
  lenK args m.np (tagK args fun vs => initK vs (m.nt - m.np) fun tm => wpx Γ m.body ⟨tm, []⟩ fun e st => endK e (resK st m.res fun l =>
    run false (toTP 8 (oneV l) fun x => .ret (.t x)) st.own [] fun v _ _ => match v with
      | .t x => K x
      | _ => False))
noncomputable def fnI (Γ : Env) (m : MFn) (args : List V) (own : Own) (K : V → Own → Prop) : Prop :=
  lenK args m.np (initK args (m.nt - m.np) fun tm => wpx Γ m.body ⟨tm, own⟩ fun e st => endK e (resK st m.res fun l =>
    gcK (vRefs (oneV l) ++ Γ.prot) st.own fun own' => K (oneV l) own'))
end Go.Nx
end
section
set_option linter.unusedVariables false
namespace Go.Nx

def look (k : Nat) : Own → Option Blk
  | [] => none
  | p :: r => if p.1 = k then some p.2 else look k r
def upd (k : Nat) (b : Blk) : Own → Own
  | [] => []
  | p :: r => if p.1 = k then (p.1, b) :: r else p :: upd k b r
def putN {α : Type} : List α → Nat → List α → List α
  | cs, _, [] => cs
  | [], _, _ :: _ => []
  | _ :: r, 0, v :: vs => v :: putN r 0 vs
  | x :: r, o + 1, v :: vs => x :: putN r o (v :: vs)
theorem getK_elim {α : Type} {l : List α} {n : Nat} {K : α → Prop} (h : getK l n K) : ∃ v, l[n]? = some v ∧ K v := by
  induction l generalizing n with
  | nil => cases n <;> exact h.elim
  | cons x r ih =>
    cases n with
    | zero => exact ⟨x, rfl, h⟩
    | succ n => simpa using ih h
theorem getK_mk {α : Type} {l : List α} {n : Nat} {K : α → Prop} {v : α} (h : l[n]? = some v) (hK : K v) : getK l n K := by
  induction l generalizing n with
  | nil => simp at h
  | cons x r ih =>
    cases n with
    | zero => simp at h; subst h; exact hK
    | succ n => exact ih (by simpa using h)
theorem setK_elim {α : Type} {l : List α} {n : Nat} {v : α} {K : List α → Prop} (h : setK l n v K) : n < l.length ∧ K (l.set n v) := by
  induction l generalizing n K with
  | nil => cases n <;> exact h.elim
  | cons x r ih =>
    cases n with
    | zero => exact ⟨by simp, h⟩
    | succ n => obtain ⟨h1, h2⟩ := ih h; exact ⟨by simpa using h1, h2⟩
theorem setK_mk {α : Type} {l : List α} {n : Nat} {v : α} {K : List α → Prop} (h : n < l.length) (hK : K (l.set n v)) : setK l n v K := by
  induction l generalizing n K with
  | nil => simp at h
  | cons x r ih =>
    cases n with
    | zero => exact hK
    | succ n => exact ih (K := fun r' => K (x :: r')) (by simpa using h) hK
theorem lkupK_elim {k : Nat} {own : Own} {K : Blk → Prop} (h : lkupK k own K) : ∃ b, look k own = some b ∧ K b := by
  induction own with
  | nil => exact h.elim
  | cons p r ih =>
    obtain ⟨j, b⟩ := p
    simp only [lkupK] at h
    simp only [look]
    by_cases e : j = k
    · subst e
      rw [Nat.beq_refl] at h
      exact ⟨b, by simp, h⟩
    · have : Nat.beq j k = false := by
        rw [← Bool.not_eq_true, Nat.beq_eq]; exact e
      rw [this] at h
      obtain ⟨c, hc, hK⟩ := ih h
      exact ⟨c, by simp [e, hc], hK⟩
theorem lkupK_mk {k : Nat} {own : Own} {K : Blk → Prop} {b : Blk} (h : look k own = some b) (hK : K b) : lkupK k own K := by
  induction own with
  | nil => simp [look] at h
  | cons p r ih =>
    obtain ⟨j, c⟩ := p
    simp only [look] at h
    simp only [lkupK]
    by_cases e : j = k
    · subst e
      rw [Nat.beq_refl]
      simp at h; subst h; exact hK
    · have : Nat.beq j k = false := by
        rw [← Bool.not_eq_true, Nat.beq_eq]; exact e
      rw [this]
      exact ih (by simpa [e] using h)
theorem updK_elim {k : Nat} {b : Blk} {own : Own} {K : Own → Prop} (h : updK k b own K) : K (upd k b own) := by
  induction own generalizing K with
  | nil => exact h.elim
  | cons p r ih =>
    obtain ⟨j, c⟩ := p
    simp only [updK] at h
    simp only [upd]
    by_cases e : j = k
    · subst e
      rw [Nat.beq_refl] at h
      simpa using h
    · have : Nat.beq j k = false := by
        rw [← Bool.not_eq_true, Nat.beq_eq]; exact e
      rw [this] at h
      simpa [e] using ih h
theorem updK_mk {k : Nat} {b c : Blk} {own : Own} {K : Own → Prop} (h : look k own = some c) (hK : K (upd k b own)) : updK k b own K := by
  induction own generalizing K with
  | nil => simp [look] at h
  | cons p r ih =>
    obtain ⟨j, c'⟩ := p
    simp only [look] at h
    simp only [updK]
    simp only [upd] at hK
    by_cases e : j = k
    · subst e
      rw [Nat.beq_refl]
      simpa using hK
    · have : Nat.beq j k = false := by
        rw [← Bool.not_eq_true, Nat.beq_eq]; exact e
      rw [this]
      exact ih (K := fun r' => K ((j, c') :: r')) (by simpa [e] using h) (by simpa [e] using hK)
theorem freshK_elim {k : Nat} {own : Own} {K : Prop} (h : freshK k own K) : look k own = none ∧ K := by
  induction own with
  | nil => exact ⟨rfl, h⟩
  | cons p r ih =>
    obtain ⟨j, c⟩ := p
    simp only [freshK] at h
    simp only [look]
    by_cases e : j = k
    · subst e
      rw [Nat.beq_refl] at h
      exact h.elim
    · have : Nat.beq j k = false := by
        rw [← Bool.not_eq_true, Nat.beq_eq]; exact e
      rw [this] at h
      obtain ⟨h1, h2⟩ := ih h
      exact ⟨by simp [e, h1], h2⟩
theorem freshK_mk {k : Nat} {own : Own} {K : Prop} (h : look k own = none) (hK : K) : freshK k own K := by
  induction own with
  | nil => exact hK
  | cons p r ih =>
    obtain ⟨j, c⟩ := p
    simp only [look] at h
    simp only [freshK]
    by_cases e : j = k
    · subst e; simp at h
    · have : Nat.beq j k = false := by
        rw [← Bool.not_eq_true, Nat.beq_eq]; exact e
      rw [this]
      exact ih (by simpa [e] using h)
theorem look_upd {k : Nat} {b c : Blk} {own : Own} (h : look k own = some c) (j : Nat) : look j (upd k b own) = if j = k then some b else look j own := by
  induction own with
  | nil => simp [look] at h
  | cons p r ih =>
    obtain ⟨i, c'⟩ := p
    simp only [look] at h
    simp only [upd]
    by_cases e : i = k
    · subst e
      by_cases e2 : j = i
      · subst e2; simp [look]
      · simp [look, e2, Ne.symm e2]
    · simp only [e, if_false] at h ⊢
      simp only [look]
      by_cases e3 : i = j
      · subst e3; simp [e]
      · simp [e3, ih h]
theorem tagK_elim {l : List T} {K : List V → Prop} (h : tagK l K) : K (l.map .t) := by
  induction l generalizing K with
  | nil => exact h
  | cons x r ih => exact ih (K := fun l => K (.t x :: l)) h
theorem takeK_elim {α : Type} {l : List α} {o n : Nat} {K : List α → Prop} (h : takeK l o n K) : (n = 0 ∨ o + n ≤ l.length) ∧ K ((l.drop o).take n) := by
  induction l generalizing o n K with
  | nil =>
    cases n with
    | zero => cases o <;> exact ⟨.inl rfl, by simpa [takeK] using h⟩
    | succ n => cases o <;> exact h.elim
  | cons x r ih =>
    cases n with
    | zero => cases o <;> exact ⟨.inl rfl, by simpa [takeK] using h⟩
    | succ n =>
      cases o with
      | zero =>
        obtain ⟨h1, h2⟩ := ih (o := 0) (n := n) h
        refine ⟨.inr ?_, by simpa using h2⟩
        simp only [List.length_cons]
        rcases h1 with h1 | h1 <;> omega
      | succ o =>
        obtain ⟨h1, h2⟩ := ih (o := o) (n := n + 1) h
        refine ⟨.inr ?_, by simpa using h2⟩
        simp only [List.length_cons]
        rcases h1 with h1 | h1 <;> omega
theorem putN_length {α : Type} (cs : List α) (o : Nat) (l : List α) : (l = [] ∨ o + l.length ≤ cs.length) → (putN cs o l).length = cs.length := by
  induction cs generalizing o l with
  | nil => intro h; cases l <;> cases o <;> simp [putN]
  | cons x r ih =>
    intro h
    cases l with
    | nil => cases o <;> simp [putN]
    | cons v vs =>
      simp at h
      cases o with
      | zero => simp only [putN, List.length_cons]; rw [ih 0 vs (by cases vs <;> simp_all)]
      | succ o => simp only [putN, List.length_cons]; rw [ih o (v :: vs) (by simp; omega)]
theorem putN_get {α : Type} (cs : List α) (o : Nat) (l : List α) (i : Nat) (h : o + l.length ≤ cs.length) :
    (putN cs o l)[i]? = if o ≤ i ∧ i < o + l.length then l[i - o]? else cs[i]? := by
  induction cs generalizing o l i with
  | nil => simp at h; obtain ⟨rfl, rfl⟩ := h; simp [putN]
  | cons x r ih =>
    cases l with
    | nil =>
      have : ¬ (o ≤ i ∧ i < o + ([] : List α).length) := by simp
      rw [if_neg this]
      cases o <;> simp [putN]
    | cons v vs =>
      simp at h
      cases o with
      | zero =>
        cases i with
        | zero => simp [putN]
        | succ i =>
          simp only [putN, List.getElem?_cons_succ]
          rw [ih 0 vs i (by omega)]
          simp
      | succ o =>
        cases i with
        | zero => simp [putN]
        | succ i =>
          simp only [putN, List.getElem?_cons_succ]
          rw [ih o (v :: vs) i (by simp; omega)]
          by_cases c : o ≤ i ∧ i < o + (v :: vs).length
          · rw [if_pos c, if_pos (by simp at c ⊢; omega)]
            congr 1; omega
          · rw [if_neg c, if_neg (by simp at c ⊢; omega)]
theorem lenK_elim {α : Type} {l : List α} {n : Nat} {K : Prop} (h : lenK l n K) : l.length = n ∧ K := by
  induction l generalizing n with
  | nil => cases n with
    | zero => exact ⟨rfl, h⟩
    | succ n => exact h.elim
  | cons x r ih => cases n with
    | zero => exact h.elim
    | succ n => obtain ⟨h1, h2⟩ := ih h; exact ⟨by simp [h1], h2⟩
theorem lenK_mk {α : Type} {l : List α} {n : Nat} {K : Prop} (h : l.length = n) (hK : K) : lenK l n K := by
  subst h
  induction l with
  | nil => exact hK
  | cons x r ih => exact ih
theorem natK_elim {b : Bool} {K : Prop} (h : natK b K) : b = true ∧ K := by cases b <;> first | exact h.elim | exact ⟨rfl, h⟩
def evF (Γ : Env) (tm : List V) : Opd → Option V
  | .t i => tm[i]?
  | .k x => some (.t x)
  | .g i => (Γ.gl i).map fun cs => .t (.ref cs)
theorem evK_elim {Γ : Env} {tm : List V} {x : Opd} {K : V → Prop} (h : evK Γ tm x K) : ∃ v, evF Γ tm x = some v ∧ K v := by
  cases x with
  | t i => exact getK_elim h
  | k x => exact ⟨_, rfl, h⟩
  | g i =>
    simp only [evK] at h
    cases e : Γ.gl i with
    | none => rw [e] at h; exact h.elim
    | some cs => rw [e] at h; exact ⟨_, by simp [evF, e], h⟩
theorem evK_mk {Γ : Env} {tm : List V} {x : Opd} {K : V → Prop} {v : V} (h : evF Γ tm x = some v) (hK : K v) : evK Γ tm x K := by
  cases x with
  | t i => exact getK_mk h hK
  | k x => simp [evF] at h; subst h; exact hK
  | g i =>
    simp only [evF] at h
    simp only [evK]
    cases e : Γ.gl i with
    | none => simp [e] at h
    | some cs => simp [e] at h; subst h; exact hK
theorem evsK_elim {Γ : Env} {tm : List V} : ∀ {xs : List Opd} {K : List V → Prop}, evsK Γ tm xs K → ∃ vs, vs.length = xs.length ∧ (∀ (i : Nat) (x : Opd), xs[i]? = some x → ∃ v, vs[i]? = some v ∧ evF Γ tm x = some v) ∧ K vs
  | [], K, h => ⟨[], rfl, fun i x hx => by simp at hx, h⟩
  | x :: r, K, h => by
    obtain ⟨v, hv, h⟩ := evK_elim h
    obtain ⟨vs, h1, h2, h3⟩ := evsK_elim h
    refine ⟨v :: vs, by simp [h1], fun i y hy => ?_, h3⟩
    cases i with
    | zero => simp at hy; subst hy; exact ⟨v, rfl, hv⟩
    | succ i => simpa using h2 i y (by simpa using hy)
theorem evsK_mk {Γ : Env} {tm : List V} : ∀ {xs : List Opd} {vs : List V} {K : List V → Prop}, vs.length = xs.length → (∀ (i : Nat) (x : Opd), xs[i]? = some x → ∃ v, vs[i]? = some v ∧ evF Γ tm x = some v) → K vs → evsK Γ tm xs K
  | [], vs, K, hl, _, hK => by
    have : vs = [] := List.eq_nil_of_length_eq_zero (by simpa using hl)
    subst this; exact hK
  | x :: r, vs, K, hl, h, hK => by
    cases vs with
    | nil => simp at hl
    | cons v vs =>
      obtain ⟨v', h1, h2⟩ := h 0 x rfl
      simp at h1; subst h1
      exact evK_mk h2 (evsK_mk (K := fun l => K (v :: l)) (by simpa using hl) (fun i y hy => by simpa using h (i + 1) y (by simpa using hy)) hK)
def St.put (st : St) (d : Option Nat) (v : V) : St := match d with
  | none => st
  | some d => ⟨st.tm.set d v, st.own⟩
theorem putK_elim {st : St} {d : Option Nat} {v : V} {K : St → Prop} (h : putK st d v K) : (∀ i, d = some i → i < st.tm.length) ∧ K (st.put d v) := by
  cases d with
  | none => exact ⟨by simp, h⟩
  | some d =>
    obtain ⟨tm, own⟩ := st
    obtain ⟨h1, h2⟩ := setK_elim h
    exact ⟨by simpa using h1, h2⟩
theorem putK_mk {st : St} {d : Option Nat} {v : V} {K : St → Prop} (h : ∀ i, d = some i → i < st.tm.length) (hK : K (st.put d v)) : putK st d v K := by
  cases d with
  | none => exact hK
  | some d =>
    obtain ⟨tm, own⟩ := st
    exact setK_mk (h d rfl) hK

section
variable {dr : Bool} {own : Own} {log : Log} {K : V → Own → Log → Prop}
theorem natP_elim {b : Bool} {p : Pg} (h : run dr (natP b p) own log K) : b = true ∧ run dr p own log K := by
  cases b
  · exact h.elim
  · exact ⟨rfl, h⟩
theorem getP_elim {α : Type} {l : List α} {n : Nat} {f : α → Pg} (h : run dr (getP l n f) own log K) : ∃ x, l[n]? = some x ∧ run dr (f x) own log K := by
  induction l generalizing n with
  | nil => cases n <;> exact h.elim
  | cons x r ih =>
    cases n with
    | zero => exact ⟨x, rfl, h⟩
    | succ n => simpa using ih h
theorem takeP_elim {α : Type} {l : List α} {o n : Nat} {f : List α → Pg} (h : run dr (takeP l o n f) own log K) : (n = 0 ∨ o + n ≤ l.length) ∧ run dr (f ((l.drop o).take n)) own log K := by
  induction l generalizing o n f with
  | nil =>
    cases n with
    | zero => cases o <;> exact ⟨.inl rfl, by simpa [takeP] using h⟩
    | succ n => cases o <;> exact h.elim
  | cons x r ih =>
    cases n with
    | zero => cases o <;> exact ⟨.inl rfl, by simpa [takeP] using h⟩
    | succ n =>
      cases o with
      | zero =>
        obtain ⟨h1, h2⟩ := ih (o := 0) (n := n) h
        refine ⟨.inr ?_, by simpa using h2⟩
        simp only [List.length_cons]
        rcases h1 with h1 | h1 <;> omega
      | succ o =>
        obtain ⟨h1, h2⟩ := ih (o := o) (n := n + 1) h
        refine ⟨.inr ?_, by simpa using h2⟩
        simp only [List.length_cons]
        rcases h1 with h1 | h1 <;> omega
theorem putNP_elim {α : Type} {cs : List α} {o : Nat} {l : List α} {f : List α → Pg} (h : run dr (putNP cs o l f) own log K) : (l = [] ∨ o + l.length ≤ cs.length) ∧ run dr (f (putN cs o l)) own log K := by
  induction cs generalizing o l f with
  | nil =>
    cases l with
    | nil => cases o <;> exact ⟨.inl rfl, by simpa [putN, putNP] using h⟩
    | cons v vs => cases o <;> exact h.elim
  | cons x r ih =>
    cases l with
    | nil => cases o <;> exact ⟨.inl rfl, by simpa [putN, putNP] using h⟩
    | cons v vs =>
      cases o with
      | zero =>
        obtain ⟨h1, h2⟩ := ih (o := 0) (l := vs) h
        refine ⟨.inr ?_, by simpa [putN] using h2⟩
        simp only [List.length_cons]
        rcases h1 with rfl | h1
        · simp
        · omega
      | succ o =>
        obtain ⟨h1, h2⟩ := ih (o := o) (l := v :: vs) h
        refine ⟨.inr ?_, by simpa [putN] using h2⟩
        simp only [List.length_cons] at h1 ⊢
        rcases h1 with h1 | h1
        · cases h1
        · omega
theorem lenP_elim {α : Type} {l : List α} {n : Nat} {p : Pg} (h : run dr (lenP l n p) own log K) : l.length = n ∧ run dr p own log K := by
  induction l generalizing n with
  | nil => cases n with
    | zero => exact ⟨rfl, h⟩
    | succ n => exact h.elim
  | cons x r ih => cases n with
    | zero => exact h.elim
    | succ n => obtain ⟨h1, h2⟩ := ih h; exact ⟨by simp [h1], h2⟩
theorem oneP_elim {x : T} {p : Pg} (h : run dr (oneP x p) own log K) : x.one = true ∧ run dr p own log K := by
  cases x <;> first | exact ⟨rfl, h⟩ | exact h.elim
theorem onesP_elim {l : List T} {p : Pg} (h : run dr (onesP l p) own log K) : (∀ x ∈ l, x.one = true) ∧ run dr p own log K := by
  induction l with
  | nil => exact ⟨by simp, h⟩
  | cons x r ih =>
    obtain ⟨h1, h2⟩ := oneP_elim h
    obtain ⟨h3, h4⟩ := ih h2
    exact ⟨by simpa [h1] using h3, h4⟩
def V.one : V → Bool
  | .agg _ | .tup _ | .dead => false
  | .t x => x.one
  | _ => true
theorem oneVP_elim {v : V} {p : Pg} (h : run dr (oneVP v p) own log K) : v.one = true ∧ run dr p own log K := by
  cases v <;> first | exact ⟨rfl, h⟩ | exact h.elim | exact oneP_elim h
theorem onesVP_elim {l : List V} {p : Pg} (h : run dr (onesVP l p) own log K) : (∀ v ∈ l, v.one = true) ∧ run dr p own log K := by
  induction l with
  | nil => exact ⟨by simp, h⟩
  | cons x r ih =>
    obtain ⟨h1, h2⟩ := oneVP_elim h
    obtain ⟨h3, h4⟩ := ih h2
    exact ⟨by simpa [h1] using h3, h4⟩
theorem tagP_elim {l : List T} {f : List V → Pg} (h : run dr (tagP l f) own log K) : run dr (f (l.map .t)) own log K := by
  induction l generalizing f with
  | nil => exact h
  | cons x r ih => exact ih (f := fun l => f (.t x :: l)) h
def V.cells : V → List V
  | .t x => x.cells.map .t
  | .agg l => l
  | v => [v]
def V.flat : V → Prop
  | .t x => x.one = true ∨ ∃ cs, x = .agg cs
  | .tup _ | .dead => False
  | _ => True
theorem cellsP_elim {v : V} {f : List V → Pg} (h : run dr (cellsP v f) own log K) : v.flat ∧ (∀ c ∈ v.cells, c.one = true) ∧ run dr (f v.cells) own log K := by
  cases v with
  | t x =>
    cases x <;> first
      | exact h.elim
      | exact ⟨.inl rfl, by simp [V.cells, T.cells, V.one, T.one], h⟩
      | (obtain ⟨h1, h2⟩ := onesP_elim h
         exact ⟨.inr ⟨_, rfl⟩, by simpa [V.cells, T.cells, V.one] using h1, tagP_elim h2⟩)
  | agg l => obtain ⟨h1, h2⟩ := onesVP_elim h; exact ⟨trivial, h1, h2⟩
  | tup l => exact h.elim
  | dead => exact h.elim
  | ptr | eptr | sl | cl | ce | mp | fn => exact ⟨trivial, by simp [V.cells, V.one], h⟩
theorem cellsTP_elim {x : T} {f : List T → Pg} (h : run dr (cellsTP x f) own log K) : (x.one = true ∨ ∃ cs, x = .agg cs) ∧ (∀ y ∈ x.cells, y.one = true) ∧ run dr (f x.cells) own log K := by
  cases x <;> first
    | exact h.elim
    | (obtain ⟨h1, h2⟩ := onesP_elim h; exact ⟨.inr ⟨_, rfl⟩, h1, h2⟩)
    | exact ⟨.inl rfl, by simp [T.cells, T.one], h⟩
theorem unT_some {l : List V} {ts : List T} (h : unT l = some ts) : l = ts.map .t := by
  induction l generalizing ts with
  | nil => simp [unT] at h; subst h; rfl
  | cons v r ih =>
    cases v <;> simp [unT] at h
    split at h
    · rename_i l' h1; cases h; simp [← ih h1]
    · cases h
theorem rdP_elim {cs : List V} {off : Nat} {n : Option Nat} {f : V → Pg} (h : run dr (rdP cs off n f) own log K) :
    (n = none ∧ ∃ v, cs[off]? = some v ∧ run dr (f v) own log K) ∨ (∃ m, n = some m ∧ (m = 0 ∨ off + m ≤ cs.length) ∧ run dr (f (aggV ((cs.drop off).take m))) own log K) := by
  cases n with
  | none => obtain ⟨x, h1, h2⟩ := getP_elim h; exact .inl ⟨rfl, x, h1, h2⟩
  | some m => obtain ⟨h1, h2⟩ := takeP_elim h; exact .inr ⟨m, rfl, h1, h2⟩
theorem rdTP_elim {cs : List T} {off : Nat} {n : Option Nat} {f : V → Pg} (h : run dr (rdTP cs off n f) own log K) :
    (n = none ∧ ∃ x, cs[off]? = some x ∧ run dr (f (.t x)) own log K) ∨ (∃ m, n = some m ∧ (m = 0 ∨ off + m ≤ cs.length) ∧ run dr (f (.t (.agg ((cs.drop off).take m)))) own log K) := by
  cases n with
  | none => obtain ⟨x, h1, h2⟩ := getP_elim h; exact .inl ⟨rfl, x, h1, h2⟩
  | some m => obtain ⟨h1, h2⟩ := takeP_elim h; exact .inr ⟨m, rfl, h1, h2⟩
theorem intP_elim {v : V} {f : Int → Pg} (h : run dr (intP v f) own log K) : ∃ k z, v = .t (.int k z) ∧ run dr (f z) own log K := by
  unfold intP at h
  split at h
  · exact ⟨_, _, rfl, h⟩
  · exact h.elim
theorem req_elim {c : Prop} [Decidable c] {p : Pg} (h : run dr (.req c p) own log K) : c ∧ run dr p own log K := by rw [run_req] at h; exact reqK_elim h
theorem nth_elim {xs : List T} {i : Int} {f : T → Pg} (h : run dr (.nth xs i f) own log K) : 0 ≤ i ∧ ∃ x, xs[i.toNat]? = some x ∧ run dr (f x) own log K := by rw [run_nth] at h; exact nthK_elim h
theorem rd_elim {k : Nat} {f : Blk → Pg} (h : run dr (.rd k f) own log K) : ∃ b, look k own = some b ∧ run dr (f b) own ((k, false) :: log) K := by rw [run_rd] at h; exact lkupK_elim h
theorem wr_elim {k : Nat} {b : Blk} {p : Pg} (h : run dr (.wr k b p) own log K) : run dr p (upd k b own) ((k, true) :: log) K := by rw [run_wr] at h; exact updK_elim h
theorem new_elim {k : Nat} {b : Blk} {p : Pg} (h : run dr (.new k b p) own log K) : look k own = none ∧ run dr p ((k, b) :: own) ((k, true) :: log) K := by rw [run_new] at h; exact freshK_elim h
theorem br_elim {b : Bool} {p q : Pg} (h : run dr (.br b p q) own log K) : (b = true ∧ run dr p own log K) ∨ (b = false ∧ run dr q own log K) := by rw [run_br] at h; exact brK_elim h
theorem alt_elim {c : Prop} [Decidable c] {p q : Pg} (h : run dr (.alt c p q) own log K) : run dr p own log K ∧ (c → run dr q own log K) := by
  rw [run_alt] at h
  cases dr
  · exact altK_elim h
  · exact h.elim
end
end Go.Nx
end
