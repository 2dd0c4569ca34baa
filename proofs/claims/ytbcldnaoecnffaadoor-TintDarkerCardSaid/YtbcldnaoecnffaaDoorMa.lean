/-
  THE MACHINE: pure tree values, own blocks, lowered code, and its weakest precondition in strict CPS (so that 'whnf' runs it).
-/
import Derived.Calls
set_option linter.unusedVariables false
namespace Go.Mx

/-- Values without addresses. -/
inductive T where
  | bool (b : Bool)
  | int (k : IntKind) (n : Int)
  | str (s : ByteArray)
  | list (sz : Nat) (xs : List T)
  | nils
  | agg (cs : List T)
  | tup (vs : List T)
  | fn (f : Fn) (first caps : List T)
  | nilfn
  | ifc (t : TypeId) (x : T)
  | nilif
  | nilptr
  | nilmap
  deriving Inhabited

def T.undef : T := .tup []
def T.cells : T → List T
  | .agg cs => cs
  | x => [x]
/-- may it lie in one cell? -/
def T.one : T → Bool
  | .agg _ | .tup _ => false
  | _ => true

/-- Values of a running call. -/
inductive V where
  | t (x : T)
  | ptr (k off : Nat)
  | eptr (k i j : Nat)
  | vptr (cs : List T) (off : Nat)
  | sl (k off len : Nat)
  | mp (k : Nat)
  | fn (f : Fn) (first caps : List V)
  | dead
  deriving Inhabited

/-- What a call owns. -/
inductive Blk where
  | cells (cs : List V)
  | lst (sz : Nat) (ts : List T) (wr : Bool)
  deriving Inhabited

inductive Opd where
  | t (i : Nat)
  | k (x : T)
  | g (i : Nat)

inductive MK where
  | mv (x : Opd)
  | pick (c a b : Opd)
  | alloc (key : Nat) (z : List T)
  | alloca (key : Nat) (z : List T)
  | box (key : Nat) (x : Opd)
  | boxa (key : Nat) (x : Opd)
  | ld (n : Option Nat) (a : Opd)
  | st (n : Nat) (a x : Opd)
  | nilc (x : Opd)
  | fa (off : Nat) (a : Opd)
  | fld (off : Nat) (n : Option Nat) (x : Opd)
  | ixa (len sz : Nat) (x i : Opd)
  | ixs (sz : Nat) (x i : Opd)
  | ixstr (x i : Opd)
  | bin (op : BinOp) (x y : Opd)
  | binb (op : BinOp) (x y : Opd)
  | eqa (neg : Bool) (sh : List Nat) (x y : Opd)
  | un (op : UnOp) (x : Opd)
  | conv (k : IntKind) (x : Opd)
  | cvs (x : Opd)
  | bld (z : List T) (parts : List (Nat × Nat × Opd))
  | bslt (sz : Nat) (xs : List Opd)
  | ext (x : Opd) (i : Nat)
  | lens (x : Opd)
  | len (x : Opd)
  | mx (x y : Opd)
  | mn (x y : Opd)
  | slstr (x : Opd) (lo hi : Option Opd)
  | sll (sz : Nat) (x : Opd) (lo hi : Option Opd)
  | ixv (len : Nat) (x i : Opd)
  | call (f : Opd) (args : List Opd)

structure MOp where
  d : Option Nat
  op : MK
  g : Option (Nat × Bool)

inductive MC where
  | skip
  | reg (ops : List MOp) (draw : Option (List (Nat × Nat)))
  | seq (a b : MC)
  | cond (c : Opd) (a b : MC)
  | block (id : Nat) (b : MC)
  | loop (b : MC)
  | exit (id : Nat)
  | ret

structure St where
  tm : List V
  own : List (Nat × Blk)

inductive Ex where
  | normal | exit (id : Nat) | ret

/-- What a called function answers: nothing is known; this; this, if. -/
inductive Ans where
  | no
  | yes (x : T)
  | req (p : Prop) (x : T)

structure Env where
  fn : Nat → List T → Ans
  gl : Nat → Option (List T)

/-! ### what stops the run: an unknown bool, an element, a condition -/
def brK (b : Bool) (A B : Prop) : Prop := match b with
  | true => A
  | false => B
theorem brK_of {b : Bool} {A B : Prop} (h1 : b = true → A) (h2 : b = false → B) : brK b A B := by
  cases b
  · exact h2 rfl
  · exact h1 rfl
theorem brK_true {b : Bool} {A B : Prop} (h : b = true) (h1 : A) : brK b A B := by subst h; exact h1
theorem brK_false {b : Bool} {A B : Prop} (h : b = false) (h1 : B) : brK b A B := by subst h; exact h1
theorem brK_elim {b : Bool} {A B : Prop} (h : brK b A B) : (b = true ∧ A) ∨ (b = false ∧ B) := by
  cases b
  · exact .inr ⟨rfl, h⟩
  · exact .inl ⟨rfl, h⟩
@[irreducible] def nthK {α : Type} (xs : List α) (i : Int) (K : α → Prop) : Prop := 0 ≤ i ∧ ∃ x, xs[i.toNat]? = some x ∧ K x
theorem nthK_of {α : Type} {xs : List α} {i : Int} {K : α → Prop} (x : α) (h0 : 0 ≤ i) (h : xs[i.toNat]? = some x) (hK : K x) : nthK xs i K := by
  unfold nthK; exact ⟨h0, x, h, hK⟩
theorem nthK_elim {α : Type} {xs : List α} {i : Int} {K : α → Prop} (h : nthK xs i K) : 0 ≤ i ∧ ∃ x, xs[i.toNat]? = some x ∧ K x := by
  unfold nthK at h; exact h
@[irreducible] def reqK (p : Prop) (K : Prop) : Prop := p ∧ K
theorem reqK_of {p K : Prop} (h : p) (hK : K) : reqK p K := by unfold reqK; exact ⟨h, hK⟩
theorem reqK_elim {p K : Prop} (h : reqK p K) : p ∧ K := by unfold reqK at h; exact h

/-! comparisons: closed to the evaluation -/
@[irreducible] def eqI (a b : Int) : Bool := a == b
@[irreducible] def ltI (a b : Int) : Bool := decide (a < b)
@[irreducible] def leI (a b : Int) : Bool := decide (a ≤ b)
@[irreducible] def eqS (a b : ByteArray) : Bool := a.toList == b.toList
@[irreducible] def maxI (x y : Int) : Int := if y > x then y else x
@[irreducible] def minI (x y : Int) : Int := if y < x then y else x
theorem eqI_def (a b : Int) : eqI a b = (a == b) := by unfold eqI; rfl
theorem ltI_def (a b : Int) : ltI a b = decide (a < b) := by unfold ltI; rfl
theorem leI_def (a b : Int) : leI a b = decide (a ≤ b) := by unfold leI; rfl
theorem eqS_def (a b : ByteArray) : eqS a b = (a.toList == b.toList) := by unfold eqS; rfl
theorem maxI_def (x y : Int) : maxI x y = if y > x then y else x := by unfold maxI; rfl
theorem minI_def (x y : Int) : minI x y = if y < x then y else x := by unfold minI; rfl

def shlI (k : IntKind) (a n : Int) : Int := k.wrap (a * 2 ^ min n.toNat k.bits)
def shrI (k : IntKind) (a n : Int) : Int := a.fdiv (2 ^ min n.toNat k.bits)
def andI (k : IntKind) (a b : Int) : Int := k.wrap (BitVec.ofInt k.bits a &&& BitVec.ofInt k.bits b).toNat
def orI (k : IntKind) (a b : Int) : Int := k.wrap (BitVec.ofInt k.bits a ||| BitVec.ofInt k.bits b).toNat
def xorI (k : IntKind) (a b : Int) : Int := k.wrap (BitVec.ofInt k.bits a ^^^ BitVec.ofInt k.bits b).toNat
def andNotI (k : IntKind) (a b : Int) : Int := k.wrap (BitVec.ofInt k.bits a &&& ~~~ BitVec.ofInt k.bits b).toNat

def kEq : IntKind → IntKind → Bool
  | .i8, .i8 | .i16, .i16 | .i32, .i32 | .i64, .i64 | .u8, .u8 | .u16, .u16 | .u32, .u32 | .u64, .u64 => true
  | _, _ => false
theorem kEq_eq {k j : IntKind} (h : kEq k j = true) : k = j := by cases k <;> cases j <;> first | rfl | cases h

/-- an operator on two integers of one kind -/
def binI (op : BinOp) (k : IntKind) (a b : Int) : Ans :=
  match op with
  | .shl => .req (0 ≤ b) (.int k (shlI k a b))
  | .shr => .req (0 ≤ b) (.int k (shrI k a b))
  | .add => .yes (.int k (k.wrap (a + b)))
  | .sub => .yes (.int k (k.wrap (a - b)))
  | .mul => .yes (.int k (k.wrap (a * b)))
  | .quo => .req (b ≠ 0) (.int k (k.wrap (a.tdiv b)))
  | .rem => .req (b ≠ 0) (.int k (a.tmod b))
  | .and => .yes (.int k (andI k a b))
  | .or => .yes (.int k (orI k a b))
  | .xor => .yes (.int k (xorI k a b))
  | .andNot => .yes (.int k (andNotI k a b))
  | .eql => .yes (.bool (eqI a b))
  | .neq => .yes (.bool (!eqI a b))
  | .lss => .yes (.bool (ltI a b))
  | .leq => .yes (.bool (leI a b))
  | .gtr => .yes (.bool (ltI b a))
  | .geq => .yes (.bool (leI b a))
def isShift : BinOp → Bool
  | .shl | .shr => true
  | _ => false
/-- The answer of an operator on two values. -/
def binA (op : BinOp) (x y : T) : Ans :=
  match x, y with
  | .int k a, .int j b => match isShift op with
    | true => binI op k a b
    | false => match kEq k j with
      | true => binI op k a b
      | false => .no
  | .str a, .str b =>
    match op with
    | .eql => .yes (.bool (eqS a b))
    | .neq => .yes (.bool (!eqS a b))
    | .add => .req (a.size + b.size ≤ 9223372036854775807) (.str (a ++ b))
    | _ => .no
  | _, _ => .no
def binbA (op : BinOp) (x y : T) : Ans :=
  match x, y with
  | .bool a, .bool b =>
    match op with
    | .eql => .yes (.bool (a == b))
    | .neq => .yes (.bool (!(a == b)))
    | _ => .no
  | _, _ => .no
/-- two cells alike, of a kind: 0 bool, 1 integer, 2 text -/
def eqC (c : Nat) (x y : T) : Option Bool := match c, x, y with
  | 0, .bool a, .bool b => some (a == b)
  | 1, .int k a, .int j b => match kEq k j with
    | true => some (eqI a b)
    | false => none
  | 2, .str a, .str b => some (eqS a b)
  | _, _, _ => none
def eqCs : List Nat → List T → List T → Option Bool
  | [], [], [] => some true
  | c :: cs, x :: xs, y :: ys => match eqC c x y with
    | some a => match eqCs cs xs ys with
      | some b => some (a && b)
      | none => none
    | none => none
  | _, _, _ => none
def unA (op : UnOp) (x : T) : Ans :=
  match op, x with
  | .not, .bool b => .yes (.bool (!b))
  | .neg, .int k n => .yes (.int k (k.wrap (0 - n)))
  | .xor, .int k n => .yes (.int k (xorI k (if k.signed then -1 else k.max) n))
  | _, _ => .no
def ansK (a : Ans) (K : T → Prop) : Prop := match a with
  | .no => False
  | .yes x => K x
  | .req p x => reqK p (K x)

/-! ### the parts of a step, each in strict form -/
def getK {α : Type} : List α → Nat → (α → Prop) → Prop
  | [], _, _ => False
  | x :: _, 0, K => K x
  | _ :: r, n + 1, K => getK r n K
def setK {α : Type} : List α → Nat → α → (List α → Prop) → Prop
  | [], _, _, _ => False
  | _ :: r, 0, v, K => K (v :: r)
  | x :: r, n + 1, v, K => setK r n v fun r' => K (x :: r')
def lkupK (k : Nat) : List (Nat × Blk) → (Blk → Prop) → Prop
  | [], _ => False
  | p :: r, K => match p with
    | (j, b) => match Nat.beq j k with
      | true => K b
      | false => lkupK k r K
def updK (k : Nat) (b : Blk) : List (Nat × Blk) → (List (Nat × Blk) → Prop) → Prop
  | [], _ => False
  | p :: r, K => match p with
    | (j, c) => match Nat.beq j k with
      | true => K ((j, b) :: r)
      | false => updK k b r fun r' => K ((j, c) :: r')
def freshK (k : Nat) : List (Nat × Blk) → Prop → Prop
  | [], K => K
  | p :: r, K => match p with
    | (j, _) => match Nat.beq j k with
      | true => False
      | false => freshK k r K
def evK (Γ : Env) (tm : List V) (x : Opd) (K : V → Prop) : Prop := match x with
  | .t i => getK tm i K
  | .k x => K (.t x)
  | .g i => match Γ.gl i with
    | some cs => K (.vptr cs 0)
    | none => False
def putK (st : St) (d : Option Nat) (v : V) (K : St → Prop) : Prop := match d with
  | none => K st
  | some d => match st with
    | ⟨tm, own⟩ => setK tm d v fun tm' => K ⟨tm', own⟩
def untagK : List V → (List T → Prop) → Prop
  | [], K => K []
  | v :: r, K => match v with
    | .t x => untagK r fun l => K (x :: l)
    | _ => False
def tagK : List T → (List V → Prop) → Prop
  | [], K => K []
  | x :: r, K => tagK r fun l => K (.t x :: l)
def takeK {α : Type} : List α → Nat → Nat → (List α → Prop) → Prop
  | _, _, 0, K => K []
  | [], _, _ + 1, _ => False
  | x :: r, 0, n + 1, K => takeK r 0 n fun l => K (x :: l)
  | _ :: r, o + 1, n + 1, K => takeK r o (n + 1) K
def putNK {α : Type} : List α → Nat → List α → (List α → Prop) → Prop
  | cs, _, [], K => K cs
  | [], _, _ :: _, _ => False
  | _ :: r, 0, v :: vs, K => putNK r 0 vs fun r' => K (v :: r')
  | x :: r, o + 1, v :: vs, K => putNK r o (v :: vs) fun r' => K (x :: r')
/-- the cells of a value: as many as n -/
def lenK {α : Type} : List α → Nat → Prop → Prop
  | [], 0, K => K
  | _ :: r, n + 1, K => lenK r n K
  | _, _, _ => False
def oneK (x : T) (K : Prop) : Prop := match x with
  | .agg _ => False
  | .tup _ => False
  | _ => K
def onesK : List T → Prop → Prop
  | [], K => K
  | x :: r, K => oneK x (onesK r K)
/-- the cells of a value, each of one cell -/
def cellsK (v : V) (K : List V → Prop) : Prop := match v with
  | .t x => match x with
    | .agg l => onesK l (tagK l K)
    | .tup _ => False
    | y => K [.t y]
  | .dead => False
  | v => K [v]
def cellsTK (x : T) (K : List T → Prop) : Prop := match x with
  | .agg l => onesK l (K l)
  | .tup _ => False
  | y => K [y]
def aggK (v : V) (K : List T → Prop) : Prop := match v with
  | .t (.agg l) => K l
  | _ => False
def toTK (v : V) (K : T → Prop) : Prop := match v with
  | .t x => K x
  | _ => False
def toTsK : List V → (List T → Prop) → Prop
  | [], K => K []
  | v :: r, K => toTK v fun x => toTsK r fun l => K (x :: l)
def argsK (Γ : Env) (tm : List V) : List Opd → (List T → Prop) → Prop
  | [], K => K []
  | x :: r, K => evK Γ tm x fun v => toTK v fun y => argsK Γ tm r fun l => K (y :: l)
def fillK (Γ : Env) (tm : List V) : List (Nat × Nat × Opd) → List T → (List T → Prop) → Prop
  | [], cs, K => K cs
  | p :: r, cs, K => match p with
    | (o, n, x) => evK Γ tm x fun v => toTK v fun y => cellsTK y fun l => lenK l n (putNK cs o l fun cs' => fillK Γ tm r cs' K)
/-- the elements of a slice -/
def listK (x : T) (K : Nat → List T → Prop) : Prop := match x with
  | .list sz xs => K sz xs
  | .nils => K 0 []
  | _ => False
def elsK (Γ : Env) (tm : List V) (sz : Nat) : List Opd → (List T → Prop) → Prop
  | [], K => K []
  | x :: r, K => evK Γ tm x fun v => toTK v fun y => cellsTK y fun l => lenK l sz (elsK Γ tm sz r fun l => K (y :: l))
/-- a bound of a slice -/
def bndK (Γ : Env) (tm : List V) (x : Option Opd) (n : Nat) (K : Int → Prop) : Prop := match x with
  | none => K n
  | some x => evK Γ tm x fun v => match v with
    | .t (.int _ z) => K z
    | _ => False
def natK (b : Bool) (K : Prop) : Prop := match b with
  | true => K
  | false => False
def rdK (cs : List V) (off : Nat) (n : Option Nat) (K : V → Prop) : Prop := match n with
  | none => getK cs off K
  | some n => takeK cs off n fun l => untagK l fun ts => onesK ts (K (.t (.agg ts)))
def rdTK (cs : List T) (off : Nat) (n : Option Nat) (K : V → Prop) : Prop := match n with
  | none => getK cs off fun x => K (.t x)
  | some n => takeK cs off n fun ts => K (.t (.agg ts))

/-- a row of one-cell elements, read and written whole; an element written -/
def ldaK (sz off : Nat) (n : Option Nat) (ts : List T) (K : V → Prop) : Prop := match sz, off, n with
  | 1, 0, some m => reqK (ts.length = m ∧ ∀ x ∈ ts, x.one = true) (K (.t (.agg ts)))
  | _, _, _ => False
def staK (sz off n : Nat) (ts : List T) (v : V) (K : List T → Prop) : Prop := match sz, off, v with
  | 1, 0, .t (.agg l) => reqK (l.length = n ∧ ts.length = n ∧ ∀ x ∈ l, x.one = true) (K l)
  | _, _, _ => False
def steK (sz j n i : Nat) (ts : List T) (v : V) (K : List T → Prop) : Prop := match sz, j, n with
  | 1, 0, 1 => toTK v fun y => oneK y (reqK (i < ts.length) (K (ts.set i y)))
  | _, _, _ => False
def ixaK (sz len o : Nat) (b : Blk) (z : Int) (K : Nat → Prop) : Prop := match b, o with
  | .lst sz' _ _, 0 => natK (Nat.beq sz' sz) (reqK (0 ≤ z ∧ z < len) (K z.toNat))
  | _, _ => False
def ixvK (sz len o : Nat) (cs : List T) (z : Int) (K : V → Prop) : Prop := match sz with
  | 1 => nthK (cs.drop o) z fun x => reqK (z < len) (K (.vptr [x] 0))
  | _ => False

def stepK (Γ : Env) (d : Option Nat) (st : St) (op : MK) (K : St → Prop) : Prop := match st with
  | ⟨tm, own⟩ => match op with
    | .mv x => evK Γ tm x fun v => putK ⟨tm, own⟩ d v K
    | .pick c a b => evK Γ tm c fun v => match v with
      | .t (.bool x) => brK x (evK Γ tm a fun v => putK ⟨tm, own⟩ d v K) (evK Γ tm b fun v => putK ⟨tm, own⟩ d v K)
      | _ => False
    | .alloc k z => freshK k own (tagK z fun cs => putK ⟨tm, (k, .cells cs) :: own⟩ d (.ptr k 0) K)
    | .alloca k z => freshK k own (putK ⟨tm, (k, .lst 1 z true) :: own⟩ d (.ptr k 0) K)
    | .box k x => evK Γ tm x fun v => cellsK v fun cs => freshK k own (putK ⟨tm, (k, .cells cs) :: own⟩ d (.ptr k 0) K)
    | .boxa k x => evK Γ tm x fun v => aggK v fun l => freshK k own (reqK (∀ x ∈ l, x.one = true) (putK ⟨tm, (k, .lst 1 l true) :: own⟩ d (.ptr k 0) K))
    | .ld n a => evK Γ tm a fun v => match v with
      | .ptr k off => lkupK k own fun b => match b with
        | .cells cs => rdK cs off n fun v => putK ⟨tm, own⟩ d v K
        | .lst sz ts wr => natK wr (ldaK sz off n ts fun v => putK ⟨tm, own⟩ d v K)
      | .eptr k i j => lkupK k own fun b => match b with
        | .lst sz ts wr => natK wr (nthK ts i fun x => cellsTK x fun l => rdTK l j n fun v => putK ⟨tm, own⟩ d v K)
        | _ => False
      | .vptr cs off => rdTK cs off n fun v => putK ⟨tm, own⟩ d v K
      | _ => False
    | .st n a x => evK Γ tm a fun v => match v with
      | .ptr k off => lkupK k own fun b => match b with
        | .cells cs => evK Γ tm x fun v => cellsK v fun l => lenK l n (putNK cs off l fun cs' => updK k (.cells cs') own fun own' => putK ⟨tm, own'⟩ d (.t .undef) K)
        | .lst sz ts wr => natK wr (evK Γ tm x fun v => staK sz off n ts v fun l => updK k (.lst 1 l true) own fun own' => putK ⟨tm, own'⟩ d (.t .undef) K)
      | .eptr k i j => lkupK k own fun b => match b with
        | .lst sz ts wr => natK wr (evK Γ tm x fun v => steK sz j n i ts v fun l => updK k (.lst 1 l true) own fun own' => putK ⟨tm, own'⟩ d (.t .undef) K)
        | _ => False
      | _ => False
    | .nilc x => evK Γ tm x fun v => match v with
      | .ptr _ _ => putK ⟨tm, own⟩ d v K
      | .eptr _ _ _ => putK ⟨tm, own⟩ d v K
      | .vptr _ _ => putK ⟨tm, own⟩ d v K
      | .t (.fn (.func f) first caps) => putK ⟨tm, own⟩ d v K
      | _ => False
    | .fa off a => evK Γ tm a fun v => match v with
      | .ptr k o => putK ⟨tm, own⟩ d (.ptr k (Nat.add o off)) K
      | .eptr k i j => putK ⟨tm, own⟩ d (.eptr k i (Nat.add j off)) K
      | .vptr cs o => putK ⟨tm, own⟩ d (.vptr cs (Nat.add o off)) K
      | _ => False
    | .fld off n x => evK Γ tm x fun v => match v with
      | .t (.agg cs) => rdTK cs off n fun v => putK ⟨tm, own⟩ d v K
      | _ => False
    | .ixa len sz x i => evK Γ tm x fun v => evK Γ tm i fun w => match w with
      | .t (.int _ z) => match v with
        | .ptr k o => lkupK k own fun b => ixaK sz len o b z fun i => putK ⟨tm, own⟩ d (.eptr k i 0) K
        | .vptr cs o => ixvK sz len o cs z fun v => putK ⟨tm, own⟩ d v K
        | _ => False
      | _ => False
    | .ixs sz x i => evK Γ tm x fun v => evK Γ tm i fun w => match w with
      | .t (.int _ z) => match v with
        | .t x => listK x fun sz' xs => nthK xs z fun y => natK (Nat.beq sz' sz) (cellsTK y fun l => putK ⟨tm, own⟩ d (.vptr l 0) K)
        | _ => False
      | _ => False
    | .ixstr x i => evK Γ tm x fun v => evK Γ tm i fun w => match w with
      | .t (.int _ z) => match v with
        | .t (.str s) => nthK s.data.toList z fun y => putK ⟨tm, own⟩ d (.t (.int .u8 y.toNat)) K
        | _ => False
      | _ => False
    | .bin op x y => evK Γ tm x fun v => evK Γ tm y fun w => toTK v fun a => toTK w fun b => ansK (binA op a b) fun r => putK ⟨tm, own⟩ d (.t r) K
    | .binb op x y => evK Γ tm x fun v => evK Γ tm y fun w => toTK v fun a => toTK w fun b => ansK (binbA op a b) fun r => putK ⟨tm, own⟩ d (.t r) K
    | .eqa neg sh x y => evK Γ tm x fun v => evK Γ tm y fun w => match v, w with
      | .t (.agg a), .t (.agg b) => match eqCs sh a b with
        | some r => putK ⟨tm, own⟩ d (.t (.bool (match neg with | true => !r | false => r))) K
        | none => False
      | _, _ => False
    | .un op x => evK Γ tm x fun v => toTK v fun a => ansK (unA op a) fun r => putK ⟨tm, own⟩ d (.t r) K
    | .conv k x => evK Γ tm x fun v => match v with
      | .t (.int _ n) => putK ⟨tm, own⟩ d (.t (.int k (k.wrap n))) K
      | _ => False
    | .cvs x => evK Γ tm x fun v => match v with
      | .t (.str s) => putK ⟨tm, own⟩ d (.t (.str s)) K
      | _ => False
    | .bld z parts => fillK Γ tm parts z fun cs => putK ⟨tm, own⟩ d (.t (.agg cs)) K
    | .bslt sz xs => elsK Γ tm sz xs fun l => putK ⟨tm, own⟩ d (.t (.list sz l)) K
    | .ext x i => evK Γ tm x fun v => match v with
      | .t (.tup l) => getK l i fun y => putK ⟨tm, own⟩ d (.t y) K
      | _ => False
    | .lens x => evK Γ tm x fun v => match v with
      | .t (.str s) => putK ⟨tm, own⟩ d (.t (.int .i64 s.size)) K
      | _ => False
    | .len x => evK Γ tm x fun v => match v with
      | .t x => listK x fun _ xs => putK ⟨tm, own⟩ d (.t (.int .i64 xs.length)) K
      | _ => False
    | .mx x y => evK Γ tm x fun v => evK Γ tm y fun w => match v, w with
      | .t (.int k a), .t (.int _ b) => putK ⟨tm, own⟩ d (.t (.int k (maxI a b))) K
      | _, _ => False
    | .mn x y => evK Γ tm x fun v => evK Γ tm y fun w => match v, w with
      | .t (.int k a), .t (.int _ b) => putK ⟨tm, own⟩ d (.t (.int k (minI a b))) K
      | _, _ => False
    | .slstr x lo hi => evK Γ tm x fun v => match v with
      | .t (.str s) => bndK Γ tm lo 0 fun l => bndK Γ tm hi s.size fun h => reqK (0 ≤ l ∧ l ≤ h ∧ h ≤ s.size) (putK ⟨tm, own⟩ d (.t (.str (s.extract l.toNat h.toNat))) K)
      | _ => False
    | .sll sz x lo hi => evK Γ tm x fun v => toTK v fun y => listK y fun sz' xs => bndK Γ tm lo 0 fun l => bndK Γ tm hi xs.length fun h =>
        reqK (0 ≤ l ∧ l ≤ h ∧ h ≤ xs.length ∧ (xs = [] ∨ sz' = sz)) (putK ⟨tm, own⟩ d (.t (.list sz ((xs.drop l.toNat).take (h.toNat - l.toNat)))) K)
    | .ixv len x i => evK Γ tm x fun v => evK Γ tm i fun w => match w with
      | .t (.int _ z) => aggK v fun cs => nthK cs z fun y => reqK (z < len) (putK ⟨tm, own⟩ d (.t y) K)
      | _ => False
    | .call f as => evK Γ tm f fun v => match v with
      | .t (.fn (.func f) [] []) => argsK Γ tm as fun vs => ansK (Γ.fn f vs) fun r => putK ⟨tm, own⟩ d (.t r) K
      | _ => False

/-! ### what is forgotten at a loop's head -/
def notIn (k : Nat) : List Nat → Bool
  | [] => true
  | j :: r => match Nat.beq j k with
    | true => false
    | false => notIn k r
def refK (kk : List Nat) (v : V) (K : Prop) : Prop := match v with
  | .ptr k _ => natK (notIn k kk) K
  | .eptr k _ _ => natK (notIn k kk) K
  | .sl k _ _ => natK (notIn k kk) K
  | .mp k => natK (notIn k kk) K
  | .fn _ _ _ => False
  | _ => K
def refsK (kk : List Nat) : List V → Prop → Prop
  | [], K => K
  | v :: r, K => refK kk v (refsK kk r K)
def refsBK (kk : List Nat) : List (Nat × Blk) → Prop → Prop
  | [], K => K
  | p :: r, K => match p with
    | (_, b) => match b with
      | .cells cs => refsK kk cs (refsBK kk r K)
      | .lst _ _ _ => refsBK kk r K
def dropK (kk : List Nat) : List (Nat × Blk) → (List (Nat × Blk) → Prop) → Prop
  | [], K => K []
  | p :: r, K => match p with
    | (j, b) => match notIn j kk with
      | true => dropK kk r fun r' => K ((j, b) :: r')
      | false => dropK kk r K
def deadK : List Nat → List V → (List V → Prop) → Prop
  | [], tm, K => K tm
  | i :: r, tm, K => setK tm i .dead fun tm' => deadK r tm' K
/-- the slots kt die, the blocks kk go -/
def killK (kt kk : List Nat) (st : St) (K : St → Prop) : Prop := match st with
  | ⟨tm, own⟩ => deadK kt tm fun tm' => dropK kk own fun own' => refsK kk tm' (refsBK kk own' (K ⟨tm', own'⟩))
def setTsK : List (Nat × V) → List V → (List V → Prop) → Prop
  | [], tm, K => K tm
  | p :: r, tm, K => match p with
    | (i, v) => setK tm i v fun tm' => setTsK r tm' K
def setBsK : List (Nat × Blk) → List (Nat × Blk) → (List (Nat × Blk) → Prop) → Prop
  | [], own, K => K own
  | p :: r, own, K => match p with
    | (k, b) => updK k b own fun own' => setBsK r own' K
/-- a state with some slots and blocks turned -/
def headK (st : St) (ts : List (Nat × V)) (bs : List (Nat × Blk)) (K : St → Prop) : Prop := match st with
  | ⟨tm, own⟩ => setTsK ts tm fun tm' => setBsK bs own fun own' => K ⟨tm', own'⟩
@[irreducible] def loopK (W : St → (Ex → St → Prop) → Prop) (st : St) (K : Ex → St → Prop) : Prop :=
  ∃ (kt kk : List Nat) (I : St → Prop) (μ : St → Nat), I st ∧ ∀ s, I s → W s fun e s' => match e with
    | .normal => killK kt kk s' fun s'' => I s'' ∧ μ s'' < μ s
    | e => K e s'
theorem loopK_elim {W : St → (Ex → St → Prop) → Prop} {st : St} {K : Ex → St → Prop} (h : loopK W st K) :
    ∃ (kt kk : List Nat) (I : St → Prop) (μ : St → Nat), I st ∧ ∀ s, I s → W s fun e s' => match e with
    | .normal => killK kt kk s' fun s'' => I s'' ∧ μ s'' < μ s
    | e => K e s' := by unfold loopK at h; exact h

/-! ### what a step may touch -/
/-- the operands of a step -/
def opds : MK → List Opd
  | .mv x | .box _ x | .boxa _ x | .ld _ x | .nilc x | .fa _ x | .fld _ _ x | .un _ x | .conv _ x | .cvs x | .ext x _ | .lens x | .len x => [x]
  | .pick c a b => [c, a, b]
  | .alloc _ _ | .alloca _ _ => []
  | .st _ a x | .ixa _ _ a x | .ixs _ a x | .ixstr a x | .bin _ a x | .binb _ a x | .eqa _ _ a x | .mx a x | .mn a x => [a, x]
  | .bld _ ps => ps.map (·.2.2)
  | .bslt _ xs => xs
  | .slstr x lo hi | .sll _ x lo hi => [x] ++ lo.toList ++ hi.toList
  | .ixv _ a x => [a, x]
  | .call f as => f :: as
/-- may it write, or make, a block? -/
def wrM : MK → Bool
  | .alloc _ _ | .alloca _ _ | .box _ _ | .boxa _ _ | .st _ _ _ => true
  | _ => false
/-- does it look into blocks? -/
def accM : MK → Bool
  | .ld _ _ | .st _ _ _ | .ixa _ _ _ _ => true
  | _ => false
def vKeys : V → List Nat
  | .ptr k _ | .eptr k _ _ | .sl k _ _ | .mp k => [k]
  | _ => []
def xKeys (tm : List V) : Opd → List Nat
  | .t i => match tm[i]? with
    | some v => vKeys v
    | none => []
  | _ => []
def xsKeys (tm : List V) : List Opd → List Nat
  | [] => []
  | x :: r => xKeys tm x ++ xsKeys tm r
def newKey : MK → List Nat
  | .alloc k _ | .alloca k _ | .box k _ | .boxa k _ => [k]
  | _ => []
/-- the blocks that a step may touch -/
def opKeys (tm : List V) (op : MK) : List Nat := match accM op with
  | true => newKey op ++ xsKeys tm (opds op)
  | false => newKey op
def apartK (l m : List Nat) : Bool := match l with
  | [] => true
  | k :: r => match notIn k m with
    | true => apartK r m
    | false => false
def nthL : List (List Nat) → Nat → List Nat
  | [], _ => []
  | x :: _, 0 => x
  | _ :: r, n + 1 => nthL r n
def chkPairs (log : List (List Nat)) : List (Nat × Nat) → Bool
  | [] => true
  | p :: r => match apartK (nthL log p.1) (nthL log p.2) with
    | true => chkPairs log r
    | false => false
def revL : List (List Nat) → List (List Nat) → List (List Nat)
  | [], acc => acc
  | x :: r, acc => revL r (x :: acc)
/-- as runOps, with what each touched -/
noncomputable def runD (Γ : Env) (ops : List MOp) : St → List (List Nat) → (St → List (List Nat) → Prop) → Prop :=
  List.rec (motive := fun _ => St → List (List Nat) → (St → List (List Nat) → Prop) → Prop) (fun st log K => K st (revL log []))
    (fun o _ ih st log K => match o with
      | ⟨d, op, g⟩ => match g with
        | none => stepK Γ d st op fun st' => ih st' (opKeys st.tm op :: log) K
        | some p => match p with
          | (t, want) => match st with
            | ⟨tm, own⟩ => getK tm t fun v => match v with
              | .t (.bool b) => match want with
                | true => brK b (stepK Γ d ⟨tm, own⟩ op fun st => ih st (opKeys tm op :: log) K) (putK ⟨tm, own⟩ d (.t .undef) fun st => ih st ([] :: log) K)
                | false => brK b (putK ⟨tm, own⟩ d (.t .undef) fun st => ih st ([] :: log) K) (stepK Γ d ⟨tm, own⟩ op fun st => ih st (opKeys tm op :: log) K)
              | .t (.tup _) => putK ⟨tm, own⟩ d (.t .undef) fun st => ih st ([] :: log) K
              | _ => False) ops
theorem runD_nil (Γ : Env) (st : St) (log : List (List Nat)) (K : St → List (List Nat) → Prop) : runD Γ [] st log K = K st (revL log []) := rfl
theorem runD_cons (Γ : Env) (o : MOp) (os : List MOp) (st : St) (log : List (List Nat)) (K : St → List (List Nat) → Prop) : runD Γ (o :: os) st log K = (match o with
    | ⟨d, op, g⟩ => match g with
      | none => stepK Γ d st op fun st' => runD Γ os st' (opKeys st.tm op :: log) K
      | some p => match p with
        | (t, want) => match st with
          | ⟨tm, own⟩ => getK tm t fun v => match v with
            | .t (.bool b) => match want with
              | true => brK b (stepK Γ d ⟨tm, own⟩ op fun st => runD Γ os st (opKeys tm op :: log) K) (putK ⟨tm, own⟩ d (.t .undef) fun st => runD Γ os st ([] :: log) K)
              | false => brK b (putK ⟨tm, own⟩ d (.t .undef) fun st => runD Γ os st ([] :: log) K) (stepK Γ d ⟨tm, own⟩ op fun st => runD Γ os st (opKeys tm op :: log) K)
            | .t (.tup _) => putK ⟨tm, own⟩ d (.t .undef) fun st => runD Γ os st ([] :: log) K
            | _ => False) := rfl

noncomputable def runOps (Γ : Env) (ops : List MOp) : St → (St → Prop) → Prop :=
  List.rec (motive := fun _ => St → (St → Prop) → Prop) (fun st K => K st)
    (fun o _ ih st K => match o with
      | ⟨d, op, g⟩ => match g with
        | none => stepK Γ d st op fun st => ih st K
        | some p => match p with
          | (t, want) => match st with
            | ⟨tm, own⟩ => getK tm t fun v => match v with
              | .t (.bool b) => match want with
                | true => brK b (stepK Γ d ⟨tm, own⟩ op fun st => ih st K) (putK ⟨tm, own⟩ d (.t .undef) fun st => ih st K)
                | false => brK b (putK ⟨tm, own⟩ d (.t .undef) fun st => ih st K) (stepK Γ d ⟨tm, own⟩ op fun st => ih st K)
              | .t (.tup _) => putK ⟨tm, own⟩ d (.t .undef) fun st => ih st K
              | _ => False) ops
theorem runOps_nil (Γ : Env) (st : St) (K : St → Prop) : runOps Γ [] st K = K st := rfl
theorem runOps_cons (Γ : Env) (o : MOp) (os : List MOp) (st : St) (K : St → Prop) : runOps Γ (o :: os) st K = (match o with
    | ⟨d, op, g⟩ => match g with
      | none => stepK Γ d st op fun st => runOps Γ os st K
      | some p => match p with
        | (t, want) => match st with
          | ⟨tm, own⟩ => getK tm t fun v => match v with
            | .t (.bool b) => match want with
              | true => brK b (stepK Γ d ⟨tm, own⟩ op fun st => runOps Γ os st K) (putK ⟨tm, own⟩ d (.t .undef) fun st => runOps Γ os st K)
              | false => brK b (putK ⟨tm, own⟩ d (.t .undef) fun st => runOps Γ os st K) (stepK Γ d ⟨tm, own⟩ op fun st => runOps Γ os st K)
            | .t (.tup _) => putK ⟨tm, own⟩ d (.t .undef) fun st => runOps Γ os st K
            | _ => False) := rfl

/-- The run of a code. By its recursor: so the elaborator's evaluation and the kernel's go one way. -/
noncomputable def wpx (Γ : Env) (c : MC) : St → (Ex → St → Prop) → Prop :=
  MC.rec (motive := fun _ => St → (Ex → St → Prop) → Prop)
    (fun st K => K .normal st)
    (fun ops dr st K => match dr with
      | none => runOps Γ ops st (K .normal)
      | some ps => runD Γ ops st [] fun st log => natK (chkPairs log ps) (K .normal st))
    (fun _ _ iha ihb st K => iha st fun e st => match e with
      | .normal => ihb st K
      | e => K e st)
    (fun c _ _ iha ihb st K => match st with
      | ⟨tm, own⟩ => evK Γ tm c fun v => match v with
        | .t (.bool x) => brK x (iha ⟨tm, own⟩ K) (ihb ⟨tm, own⟩ K)
        | _ => False)
    (fun id _ ih st K => ih st fun e st => match e with
      | .exit j => match Nat.beq j id with
        | true => K .normal st
        | false => K (.exit j) st
      | e => K e st)
    (fun _ ih st K => loopK ih st K)
    (fun id st K => K (.exit id) st)
    (fun st K => K .ret st) c
theorem wpx_skip (Γ : Env) (st : St) (K : Ex → St → Prop) : wpx Γ .skip st K = K .normal st := rfl
theorem wpx_reg (Γ : Env) (ops : List MOp) (dr : Option (List (Nat × Nat))) (st : St) (K : Ex → St → Prop) : wpx Γ (.reg ops dr) st K = (match dr with
    | none => runOps Γ ops st (K .normal)
    | some ps => runD Γ ops st [] fun st log => natK (chkPairs log ps) (K .normal st)) := rfl
theorem wpx_seq (Γ : Env) (a b : MC) (st : St) (K : Ex → St → Prop) : wpx Γ (.seq a b) st K = wpx Γ a st fun e st => match e with
    | .normal => wpx Γ b st K
    | e => K e st := rfl
theorem wpx_cond (Γ : Env) (c : Opd) (a b : MC) (st : St) (K : Ex → St → Prop) : wpx Γ (.cond c a b) st K = (match st with
    | ⟨tm, own⟩ => evK Γ tm c fun v => match v with
      | .t (.bool x) => brK x (wpx Γ a ⟨tm, own⟩ K) (wpx Γ b ⟨tm, own⟩ K)
      | _ => False) := rfl
theorem wpx_block (Γ : Env) (id : Nat) (b : MC) (st : St) (K : Ex → St → Prop) : wpx Γ (.block id b) st K = wpx Γ b st fun e st => match e with
    | .exit j => match Nat.beq j id with
      | true => K .normal st
      | false => K (.exit j) st
    | e => K e st := rfl
theorem wpx_loop (Γ : Env) (b : MC) (st : St) (K : Ex → St → Prop) : wpx Γ (.loop b) st K = loopK (wpx Γ b) st K := rfl
theorem wpx_exit (Γ : Env) (id : Nat) (st : St) (K : Ex → St → Prop) : wpx Γ (.exit id) st K = K (.exit id) st := rfl
theorem wpx_ret (Γ : Env) (st : St) (K : Ex → St → Prop) : wpx Γ .ret st K = K .ret st := rfl
/-! ### functions -/
inductive Res where
  | tmp (t : Nat)
  | cell (t : Nat) (n : Option Nat)
structure MFn where
  np : Nat
  nt : Nat
  res : List Res
  body : MC
def resK (st : St) : List Res → (List T → Prop) → Prop
  | [], K => K []
  | r :: rs, K => match st with
    | ⟨tm, own⟩ => match r with
      | .tmp t => getK tm t fun v => toTK v fun x => resK ⟨tm, own⟩ rs fun l => K (x :: l)
      | .cell t n => getK tm t fun v => match v with
        | .ptr k off => lkupK k own fun b => match b with
          | .cells cs => rdK cs off n fun v => toTK v fun x => resK ⟨tm, own⟩ rs fun l => K (x :: l)
          | _ => False
        | _ => False
def oneResK (l : List T) (K : T → Prop) : Prop := match l with
  | [x] => K x
  | [] => K (.tup [])
  | x :: y :: r => K (.tup (x :: y :: r))
def padK : Nat → (List V → Prop) → Prop
  | 0, K => K []
  | n + 1, K => padK n fun l => K (.dead :: l)
def initK : List T → Nat → (List V → Prop) → Prop
  | [], n, K => padK n K
  | x :: r, n, K => initK r n fun l => K (.t x :: l)
/-- the run of a function -/
def fnK (Γ : Env) (m : MFn) (args : List T) (K : T → Prop) : Prop :=
  lenK args m.np (initK args (m.nt - m.np) fun tm => wpx Γ m.body ⟨tm, []⟩ fun e st => match e with
    | .normal => resK st m.res fun l => oneResK l K
    | .ret => resK st m.res fun l => oneResK l K
    | .exit _ => False)
end Go.Mx
