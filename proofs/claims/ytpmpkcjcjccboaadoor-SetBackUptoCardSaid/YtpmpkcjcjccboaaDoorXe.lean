/-
  THE PROGRAM's CODE, LOWERED.
-/
import Derived.Test.YtpmpkcjcjccboaaDoorXd
import Derived.Laws.Cells
import Derived.Laws.StructEq
import Derived.Laws.Tables
import Derived.Laws.Rows
import Derived.Laws.Small
set_option linter.unusedVariables false
namespace Go.Nx

mutual
def ofC : Nat → Value → Option T
  | 0, _ => none
  | n + 1, v => match v with
    | .bool b => some (.bool b)
    | .int k n => some (.int k n)
    | .string s => some (.str s)
    | .slice none 0 0 => some .nils
    | .nilFunc => some .nilfn
    | .nilIface => some .nilif
    | .pointer none => some .nilptr
    | .map none => some .nilmap
    | .agg cs => (ofCs n cs.toList).map .agg
    | _ => none
def ofCs : Nat → List Value → Option (List T)
  | 0, _ => none
  | n + 1, l => match l with
    | [] => some []
    | v :: r => match ofC n v, ofCs n r with
      | some x, some xs => some (x :: xs)
      | _, _ => none
end

def lowX : Operand → Option Opd
  | .tmp t => some (.t t)
  | .const v => (ofC 400 v).map .k
  | .global g => some (.g g)
  | .func f => some (.k (.fn (.func f) [] []))
def lowXs : List Operand → Option (List Opd)
  | [] => some []
  | x :: r => match lowX x, lowXs r with
    | some y, some ys => some (y :: ys)
    | _, _ => none
def lowO : Option Operand → Option (Option Opd)
  | none => some none
  | some x => (lowX x).map some
def aggD : TypeDesc → Bool
  | .struct _ | .array _ _ => true
  | _ => false
/-- how a value of a type lies: one cell, or so many -/
def cellsN (P : Program) (t : TypeId) : Option (Option Nat) :=
  match P.underlying t, P.info? t with
  | some d, some i => if aggD d then some (some i.size) else some none
  | _, _ => none
def ofZero (P : Program) (t : TypeId) : Option (List T) :=
  match P.info? t with
  | some i => match i.zero with
    | some z => ofCs 400 z.cells.toList
    | none => none
  | none => none
def basicD : TypeDesc → Bool
  | .int _ | .bool | .string => true
  | _ => false
def arr1 (P : Program) (t : TypeId) : Bool :=
  match P.underlying t with
  | some (.array _ e) => match P.info? e, P.underlying e with
    | some i, some d => i.size == 1 && basicD d
    | _, _ => false
  | _ => false
/-- the zero of a type, as one value -/
def zeroT (P : Program) (t : TypeId) : Option T :=
  match P.info? t with
  | some i => match i.zero with
    | some v => ofC 400 v
    | none => none
  | none => none
def flatB (z : T) : Bool := (match z with | .tup _ => false | _ => true) && z.cells.all T.one
def sameO : Operand → Operand → Bool
  | .tmp i, .tmp j => i == j
  | .const (.int .i64 a), .const (.int .i64 b) => a == b
  | _, _ => false
def nilK (d : TypeDesc) (v : Value) : Option Nat := match d, v with
  | .slice _, .slice none 0 0 => some 0
  | .func _ _ _, .nilFunc => some 1
  | .map _ _, .map none => some 2
  | .pointer _, .pointer none => some 3
  | _, _ => none
def onesB (l : List T) : Bool := l.all T.one
mutual
/-- types of which '==' compares cell by cell: the kinds of the cells -/
def flatS (P : Program) : Nat → TypeId → Option (List Nat)
  | 0, _ => none
  | n + 1, t => match P.underlying t with
    | some .bool => some [0]
    | some (.int _) => some [1]
    | some .string => some [2]
    | some (.struct fs) => if P.stoodInHeld t then none else flatFs P n 0 fs.toList
    | _ => none
def flatFs (P : Program) : Nat → Nat → List Field → Option (List Nat)
  | 0, _, _ => none
  | n + 1, acc, l => match l with
    | [] => some []
    | f :: fs => if f.name = "_" then none else if f.offset = acc then match flatS P n f.type, P.info? f.type with
      | some k, some i => if i.size = k.length then (flatFs P n (acc + k.length) fs).map (k ++ ·) else none
      | _, _ => none
      else none
end
/-- where the parts of a struct or an array lie -/
def placeOf (P : Program) (t : TypeId) : Option (Nat → Option (Nat × Nat)) :=
  match P.info? t, P.underlying t with
  | some it, some (.array _ e) =>
    match it.zero, P.info? e with
    | some _, some ie => some fun i => some (i * ie.size, ie.size)
    | _, _ => none
  | some it, some (.struct fields) =>
    match it.zero, fields.toList.mapM (fun f => (P.info? f.type).map fun i => (f.offset, i.size)) with
    | some _, some places => some (places.toArray[·]?)
    | _, _ => none
  | _, _ => none
def partsOf (place : Nat → Option (Nat × Nat)) : List (Nat × Operand) → Option (List (Nat × Nat × Opd))
  | [] => some []
  | p :: r => match place p.1, lowX p.2, partsOf place r with
    | some q, some y, some ys => if q.2 = 0 then none else some ((q.1, q.2, y) :: ys)
    | _, _, _ => none
def keyOf (d : Option Tmp) : Nat := 64 + d.getD 0

def i64B (P : Program) (t : TypeId) : Bool := match P.underlying t with
  | some (.int .i64) => true
  | _ => false
def lowCall (P : Program) (o : Oper) (c : Call) : Option MK :=
  match c.callee with
  | .value f => match lowX f, lowXs c.args.toList with
    | some f, some as => some (.call (keyOf o.dst) f as)
    | _, _ => none
  | .builtin b => match b, c.args.toList, c.argTypes.toList with
    | .len, [x], [t] => match P.underlying t, lowX x with
      | some .string, some x => some (.lens x)
      | some (.slice _), some x => some (.len x)
      | some (.array n _), some _ => some (.mv (.k (.int .i64 n)))
      | _, _ => none
    | .cap, [x], [t] => match P.underlying t, lowX x with
      | some (.slice _), some x => some (.capn x)
      | _, _ => none
    | .clear, [x], [t] => match P.underlying t, lowX x with
      | some (.slice e), some x => match P.info? e, zeroT P e with
        | some i, some z => if i.size = 0 ∨ z.cells.length ≠ i.size then none else if flatB z then some (.clr i.size z x) else none
        | _, _ => none
      | _, _ => none
    | .copy, [x, y], [t, u] => match P.underlying t, P.underlying u, lowX x, lowX y with
      | some (.slice e), some (.slice _), some x, some y => match P.info? e with
        | some i => if i.size = 0 then none else some (.cpy i.size x y)
        | none => none
      | _, _, _, _ => none
    | .max, [x, y], _ => match lowX x, lowX y with
      | some x, some y => some (.mx x y)
      | _, _ => none
    | .min, [x, y], _ => match lowX x, lowX y with
      | some x, some y => some (.mn x y)
      | _, _ => none
    | .append, [x, y], [t, u] => match P.underlying t, P.underlying u, lowX x, lowX y with
      | some (.slice e), some (.slice e2), some x, some y => if e ≠ e2 then none else match P.info? e with
        | some i => match i.zero with
          | some z => if i.size = 0 ∨ i.bytes = 0 ∨ z.cells.size ≠ i.size ∨ 65536 < i.bytes then none else some (.app (keyOf o.dst) i.size i.bytes x y)
          | none => none
        | none => none
      | some (.slice e), some (.int _), some x, some y => match P.info? e, zeroT P e with
        | some i, some z => if i.size = 0 ∨ i.bytes = 0 ∨ z.cells.length ≠ i.size ∨ 65536 < i.bytes then none else if flatB z then some (.appz (keyOf o.dst) i.size i.bytes z x y) else none
        | _, _ => none
      | _, _, _, _ => none
    | _, _, _ => none
  | _ => none

def lowOp0 (P : Program) (o : Oper) : Option MK :=
  match o.op with
  | .move x => (lowX x).map .mv
  | .assign x => (lowX x).map .mv
  | .pick c a b => match lowX c, lowX a, lowX b with
    | some c, some a, some b => some (.pick c a b)
    | _, _, _ => none
  | .alloc t => match ofZero P t with
    | some z => if arr1 P t && onesB z then some (.alloca (keyOf o.dst) z) else some (.alloc (keyOf o.dst) z)
    | none => none
  | .box t x => if arr1 P t then (lowX x).map (.boxa (keyOf o.dst)) else (lowX x).map (.box (keyOf o.dst))
  | .load t x => match cellsN P t, lowX x with
    | some n, some x => some (.ld n x)
    | _, _ => none
  | .store t x y => match P.info? t, lowX x, lowX y with
    | some i, some x, some y => if i.size = 0 then none else some (.st i.size x y)
    | _, _, _ => none
  | .nilCheck x => (lowX x).map .nilc
  | .fieldAddr s x f => match P.underlying s with
    | some (.struct fs) => match fs[f]? with
      | some f => match P.info? f.type with
        | some i => if i.size = 0 then none else (lowX x).map (.fa f.offset)
        | none => none
      | none => none
    | _ => none
  | .field s x f => match P.underlying s with
    | some (.struct fs) => match fs[f]? with
      | some f => match cellsN P f.type, lowX x with
        | some n, some x => some (.fld f.offset n x)
        | _, _ => none
      | none => none
    | _ => none
  | .indexAddr t x i => match P.underlying t with
    | some (.array len e) => match P.info? e, lowX x, lowX i with
      | some ti, some x, some i => match i with
        | .k (.int _ z) => if 0 ≤ z then some (.ixk len ti.size x z.toNat) else none
        | i => some (.ixa len ti.size x i)
      | _, _, _ => none
    | some (.slice e) => match P.info? e, lowX x, lowX i with
      | some ti, some x, some i => some (.ixs ti.size x i)
      | _, _, _ => none
    | _ => none
  | .index t x i => match P.underlying t with
    | some .string => match lowX x, lowX i with
      | some x, some i => some (.ixstr x i)
      | _, _ => none
    | some (.array n e) => match P.info? e, P.underlying e, lowX x, lowX i with
      | some ti, some d, some x, some i => if ti.size = 1 then if aggD d then none else some (.ixv n x i) else none
      | _, _, _, _ => none
    | _ => none
  | .binOp op t x y _ => match P.underlying t, lowX x with
    | some d, some a =>
      match (match y with | .const v => nilK d v | _ => none) with
      | some kd => match op with
        | .eql => some (.isn kd false a)
        | .neq => some (.isn kd true a)
        | _ => none
      | none => match lowX y with
        | none => none
        | some b =>
          if aggD d then
            if P.eqGuardType P.depth t then none else
            match flatS P 1000 t with
            | some sh => match op with
              | .eql => some (.eqa false sh a b)
              | .neq => some (.eqa true sh a b)
              | _ => none
            | none => none
          else match d with
            | .int _ => some (.bin op a b)
            | .string => some (.bin op a b)
            | .bool => some (.binb op a b)
            | _ => none
    | _, _ => none
  | .unOp op _ x => (lowX x).map (.un op)
  | .convert s d x => match P.underlying s, P.underlying d, lowX x with
    | some (.int _), some (.int k), some x => some (.conv k x)
    | some .string, some .string, some x => some (.cvs x)
    | _, _, _ => none
  | .build t ps => match ofZero P t, placeOf P t with
    | some z, some f => (partsOf f ps.toList).map (.bld z)
    | _, _ => none
  | .buildSlice t n ps => match P.underlying t with
    | some (.slice e) => match P.info? e, lowXs (ps.toList.map (·.2)) with
      | some ti, some xs => match ti.zero with
        | some _ => if ps.toList.map (·.1) = List.range n then if n * ti.size ≤ 2 ^ 24 then some (.bslt ti.size xs) else none else none
        | none => none
      | _, _ => none
    | _ => none
  | .slice t x lo hi mx => match mx with
    | none => match lowX x, lowO lo, lowO hi, P.underlying t with
      | some x, some lo, some hi, some .string => some (.slstr x lo hi)
      | some x, some lo, some hi, some (.slice e) => match P.info? e with
        | some ti => some (.sll ti.size x lo hi)
        | none => none
      | some x, some lo, some hi, some (.array n e) => match P.info? e with
        | some ti => some (.slp ti.size n x lo hi)
        | none => none
      | _, _, _, _ => none
    | some m => match lo, hi, lowX x, lowX m, P.underlying t with
      | none, some h, some x, some m, some (.slice e) => match P.info? e, lowX h with
        | some ti, some h => some (.clip ti.size x h m)
        | _, _ => none
      | _, _, _, _, _ => none
  | .makeSlice t l c => if sameO l c then match P.underlying t, lowX l with
      | some (.slice e), some l => match P.info? e, zeroT P e with
        | some i, some z => if i.size = 0 ∨ i.bytes = 0 ∨ z.cells.length ≠ i.size ∨ 65536 < i.bytes then none else if flatB z then some (.mks (keyOf o.dst) i.size i.bytes z l) else none
        | _, _ => none
      | _, _ => none
    else none
  | .makeFunc f a b => match lowXs a.toList, lowXs b.toList with
    | some a, some b => some (.mkf f a b)
    | _, _ => none
  | .makeMap t r => match P.underlying t, r with
    | some (.map _ _), none => some (.mkm (keyOf o.dst))
    | _, _ => none
  | .insert t m k v => match P.underlying t, lowX m, lowX k, lowX v with
    | some (.map kt _), some m, some k, some v => match P.underlying kt with
      | some (.int _) => some (.ins m k v)
      | _ => none
    | _, _, _, _ => none
  | .lookup t m k ok => match P.underlying t, lowX m, lowX k with
    | some (.map kt et), some m, some k => if i64B P kt && i64B P et && !ok then (match zeroT P et with | some (.int .i64 n) => if n = 0 then some (.lkpi m k) else none | _ => none) else match P.underlying kt, zeroT P et with
      | some (.int _), some z => some (.lkp z ok m k)
      | _, _ => none
    | _, _, _ => none
  | .mapUpdate t m k v => match P.underlying t, lowX m, lowX k, lowX v with
    | some (.map kt et), some m, some k, some v => if i64B P kt && i64B P et then some (.updi m k v) else none
    | _, _, _, _ => none
  | .extract x i => (lowX x).map (.ext · i)
  | .call c => lowCall P o c
  | _ => none

def lowOp (P : Program) (o : Oper) : Option MK := match lowOp0 P o with
  | some k => some k
  | none => some .stop
def lowG (ops : Array Oper) (o : Oper) : Option (Option (Nat × Bool)) :=
  match o.guard with
  | none => some none
  | some (j, b) => match (ops[j]?).bind (·.dst) with
    | some t => some (some (t, b))
    | none => none
def lowOps (P : Program) (ops : Array Oper) : List Oper → Option (List MOp)
  | [] => some []
  | o :: r => match lowOp P o, lowG ops o, lowOps P ops r with
    | some k, some g, some l => some (⟨o.dst, k, g⟩ :: l)
    | _, _, _ => none
/-! drawn regions -/
def preOf (o : Oper) : List Nat := (o.after.toList.filter (Region.binds .any)).map (·.on)
/-- all that must go ahead of each, as bits -/
def maskOf (acc : List Nat) : List Nat → Nat
  | [] => 0
  | i :: r => (1 <<< i ||| (acc[i]?).getD 0) ||| maskOf acc r
def closure : List (List Nat) → List Nat → List Nat
  | [], acc => acc
  | p :: r, acc => closure r (acc ++ [maskOf acc p])
def opdT : Opd → List Nat
  | .t i => [i]
  | _ => []
def rdT (m : MOp) : List Nat := (match m.g with | some p => [p.1] | none => []) ++ (opds m.op).flatMap opdT
def apartT (x y : MOp) : Bool :=
  (match x.d with
   | some d => !(rdT y).contains d && y.d != some d
   | none => true) &&
  (match y.d with
   | some d => !(rdT x).contains d
   | none => true)
/-- may it look into own blocks? -/
def hasK : MK → Bool
  | .mv _ | .pick _ _ _ | .nilc _ | .fa _ _ | .fld _ _ _ | .ixstr _ _ | .bin _ _ _ | .binb _ _ _ | .eqa _ _ _ _ | .un _ _ | .conv _ _ | .cvs _ | .bld _ _ | .ext _ _ | .lens _ | .mx _ _ | .mn _ _
  | .slstr _ _ _ | .ixv _ _ _ | .mkf _ _ _ => false
  | _ => true
def needPair (x y : MOp) : Bool := hasK x.op && hasK y.op
/-- the pairs whose blocks must be looked at; none, where two would meet in a slot -/
def pairsAt (ml : List MOp) (cl : List Nat) (j : Nat) : List Nat → Option (List (Nat × Nat))
  | [] => some []
  | i :: r => match ml[i]?, ml[j]?, pairsAt ml cl j r with
    | some x, some y, some l =>
      if ((cl[j]?).getD 0).testBit i then some l
      else if apartT x y then (if needPair x y then some ((i, j) :: l) else some l) else none
    | _, _, _ => none
def pairsOf (ml : List MOp) (cl : List Nat) : List Nat → Option (List (Nat × Nat))
  | [] => some []
  | j :: r => match pairsAt ml cl j (List.range j), pairsOf ml cl r with
    | some l, some l' => some (l ++ l')
    | _, _ => none
def edgesOk : Nat → List Oper → Bool
  | _, [] => true
  | i, o :: r => (preOf o).all (· < i) && edgesOk (i + 1) r
def lowDraw (ops : List Oper) (ml : List MOp) : Option (List (Nat × Nat)) :=
  if edgesOk 0 ops then pairsOf ml (closure (ops.map preOf) []) (List.range ml.length) else none
def low (P : Program) : Code → Option MC
  | .skip => some .skip
  | .region _ ops d => match lowOps P ops ops.toList with
    | some ml => if d then (if P.follows .mixedOrders then (lowDraw ops.toList ml).map fun ps => .reg ml (some ps) else none) else some (.reg ml none)
    | none => none
  | .seq a b => match low P a, low P b with
    | some x, some y => some (.seq x y)
    | _, _ => none
  | .cond c a b => match lowX c, low P a, low P b with
    | some c, some x, some y => some (.cond c x y)
    | _, _, _ => none
  | .block i b => (low P b).map (.block i)
  | .loop b => (low P b).map .loop
  | .exit i => some (.exit i)
  | .ret => some .ret
  | _ => none
def lowRes (P : Program) : List ResultVar → Option (List Res)
  | [] => some []
  | r :: rs => match lowRes P rs with
    | some l => match r with
      | .tmp t => some (.tmp t :: l)
      | .cell t ty => match cellsN P ty with
        | some n => some (.cell t n :: l)
        | none => none
    | none => none
def lowFn (P : Program) (f : Func) : Option MFn :=
  match f.body with
  | some c => match low P c, lowRes P f.results.toList with
    | some m, some r => if f.name = "runtime.NumGoroutine" then none else some ⟨f.params.size + f.nfree, f.ntmps, r, m⟩
    | _, _ => none
  | none => none
end Go.Nx
