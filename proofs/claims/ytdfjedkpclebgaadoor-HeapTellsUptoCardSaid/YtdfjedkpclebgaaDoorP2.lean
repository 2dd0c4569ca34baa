/-
  A part of the machine, and of what is walked.
-/
import Derived.Test.YtdfjedkpclebgaaDoorP1
import Derived.Laws.Cells
import Derived.Laws.StructEq
import Derived.Laws.Tables
import Derived.Laws.Rows
import Derived.Laws.Small
import Derived.Laws.Build
section
set_option linter.unusedVariables false
namespace Go.Nx

mutual
def ofC : Nat → Value → Option T
  | 0, _ => none
  | n + 1, v => match v with
    | .bool b => some (.bool b)
    | .int k n => some (.int k n)
    | .string s => some (.str s)
    | .slice none 0 0 => some .nils
    | .nilFunc => some .nilfn
    | .nilIface => some .nilif
    | .pointer none => some .nilptr
    | .map none => some .nilmap
    | .agg cs => (ofCs n cs.toList).map .agg
    | _ => none
def ofCs : Nat → List Value → Option (List T)
  | 0, _ => none
  | n + 1, l => match l with
    | [] => some []
    | v :: r => match ofC n v, ofCs n r with
      | some x, some xs => some (x :: xs)
      | _, _ => none
end

def lowX : Operand → Option Opd
  | .tmp t => some (.t t)
  | .const v => (ofC 400 v).map .k
  | .global g => some (.g g)
  | .func f => some (.k (.fn (.func f) [] []))
def lowXs : List Operand → Option (List Opd)
  | [] => some []
  | x :: r => match lowX x, lowXs r with
    | some y, some ys => some (y :: ys)
    | _, _ => none
def lowO : Option Operand → Option (Option Opd)
  | none => some none
  | some x => (lowX x).map some
def aggD : TypeDesc → Bool
  | .struct _ | .array _ _ => true
  | _ => false
def cellsN (P : Program) (t : TypeId) : Option (Option Nat) :=
  match P.underlying t, P.info? t with
  | some d, some i => if aggD d then some (some i.size) else some none
  | _, _ => none
def ofZero (P : Program) (t : TypeId) : Option (List T) :=
  match P.info? t with
  | some i => match i.zero with
    | some z => ofCs 400 z.cells.toList
    | none => none
  | none => none
def basicD : TypeDesc → Bool
  | .int _ | .bool | .string => true
  | _ => false
def arr1 (P : Program) (t : TypeId) : Bool :=
  match P.underlying t with
  | some (.array _ e) => match P.info? e, P.underlying e with
    | some i, some d => i.size == 1 && basicD d
    | _, _ => false
  | _ => false
def zeroT (P : Program) (t : TypeId) : Option T :=
  match P.info? t with
  | some i => match i.zero with
    | some v => ofC 400 v
    | none => none
  | none => none
def flatB (z : T) : Bool := (match z with | .tup _ => false | _ => true) && z.cells.all T.one
def sameO : Operand → Operand → Bool
  | .tmp i, .tmp j => i == j
  | .const (.int .i64 a), .const (.int .i64 b) => a == b
  | _, _ => false
def nilK (d : TypeDesc) (v : Value) : Option Nat := match d, v with
  | .slice _, .slice none 0 0 => some 0
  | .func _ _ _, .nilFunc => some 1
  | .map _ _, .map none => some 2
  | .pointer _, .pointer none => some 3
  | _, _ => none
def tasB (P : Program) : Bool := match P.underlying P.rt.typeAssertionError with
  | some (.pointer _) => true
  | _ => false
def ifcNil (d : TypeDesc) (y : Operand) : Bool := match d, y with
  | .interface _, .const .nilIface => true
  | _, _ => false
def onesB (l : List T) : Bool := l.all T.one
mutual
def flatS (P : Program) : Nat → TypeId → Option (List Nat)
  | 0, _ => none
  | n + 1, t => match P.underlying t with
    | some .bool => some [0]
    | some (.int _) => some [1]
    | some .string => some [2]
    | some (.struct fs) => if P.stoodInHeld t then none else flatFs P n 0 fs.toList
    | _ => none
def flatFs (P : Program) : Nat → Nat → List Field → Option (List Nat)
  | 0, _, _ => none
  | n + 1, acc, l => match l with
    | [] => some []
    | f :: fs => if f.name = "_" then none else if f.offset = acc then match flatS P n f.type, P.info? f.type with
      | some k, some i => if i.size = k.length then (flatFs P n (acc + k.length) fs).map (k ++ ·) else none
      | _, _ => none
      else none
end
def placeOf (P : Program) (t : TypeId) : Option (Nat → Option (Nat × Nat)) :=
  match P.info? t, P.underlying t with
  | some it, some (.array _ e) =>
    match it.zero, P.info? e with
    | some _, some ie => some fun i => some (i * ie.size, ie.size)
    | _, _ => none
  | some it, some (.struct fields) =>
    match it.zero, fields.toList.mapM (fun f => (P.info? f.type).map fun i => (f.offset, i.size)) with
    | some _, some places => some (places.toArray[·]?)
    | _, _ => none
  | _, _ => none
def partsOf (place : Nat → Option (Nat × Nat)) : List (Nat × Operand) → Option (List (Nat × Nat × Opd))
  | [] => some []
  | p :: r => match place p.1, lowX p.2, partsOf place r with
    | some q, some y, some ys => if q.2 = 0 then none else some ((q.1, q.2, y) :: ys)
    | _, _, _ => none
def keyOf (d : Option Tmp) : Nat := 64 + d.getD 0

def i64B (P : Program) (t : TypeId) : Bool := match P.underlying t with
  | some (.int .i64) => true
  | _ => false
def lowCall (P : Program) (o : Oper) (c : Call) : Option MK :=
  match c.callee with
  | .value f => match lowX f, lowXs c.args.toList with
    | some f, some as => some (.call (keyOf o.dst) f as)
    | _, _ => none
  | .builtin b => match b, c.args.toList, c.argTypes.toList with
    | .len, [x], [t] => match P.underlying t, lowX x with
      | some .string, some x => some (.lens x)
      | some (.slice _), some x => some (.len x)
      | some (.array n _), some _ => some (.mv (.k (.int .i64 n)))
      | _, _ => none
    | .cap, [x], [t] => match P.underlying t, lowX x with
      | some (.slice _), some x => some (.capn x)
      | _, _ => none
    | .clear, [x], [t] => match P.underlying t, lowX x with
      | some (.slice e), some x => match P.info? e, zeroT P e with
        | some i, some z => if i.size = 0 ∨ z.cells.length ≠ i.size then none else if flatB z then some (.clr i.size z x) else none
        | _, _ => none
      | _, _ => none
    | .copy, [x, y], [t, u] => match P.underlying t, P.underlying u, lowX x, lowX y with
      | some (.slice e), some (.slice _), some x, some y => match P.info? e with
        | some i => if i.size = 0 then none else some (.cpy i.size x y)
        | none => none
      | _, _, _, _ => none
    | .max, [x, y], _ => match lowX x, lowX y with
      | some x, some y => some (.mx x y)
      | _, _ => none
    | .min, [x, y], _ => match lowX x, lowX y with
      | some x, some y => some (.mn x y)
      | _, _ => none
    | .append, [x, y], [t, u] => match P.underlying t, P.underlying u, lowX x, lowX y with
      | some (.slice e), some (.slice e2), some x, some y => if e ≠ e2 then none else match P.info? e with
        | some i => match i.zero with
          | some z => if i.size = 0 ∨ i.bytes = 0 ∨ z.cells.size ≠ i.size ∨ 65536 < i.bytes then none else some (.app (keyOf o.dst) i.size i.bytes x y)
          | none => none
        | none => none
      | some (.slice e), some (.int _), some x, some y => match P.info? e, zeroT P e with
        | some i, some z => if i.size = 0 ∨ i.bytes = 0 ∨ z.cells.length ≠ i.size ∨ 65536 < i.bytes then none else if flatB z then some (.appz (keyOf o.dst) i.size i.bytes z x y) else none
        | _, _ => none
      | _, _, _, _ => none
    | _, _, _ => none
  | _ => none

def lowOp0 (P : Program) (o : Oper) : Option MK :=
  match o.op with
  | .move x => (lowX x).map .mv
  | .assign x => (lowX x).map .mv
  | .pick c a b => match lowX c, lowX a, lowX b with
    | some c, some a, some b => some (.pick c a b)
    | _, _, _ => none
  | .alloc t => match ofZero P t with
    | some z => if arr1 P t && onesB z then some (.alloca (keyOf o.dst) z) else some (.alloc (keyOf o.dst) z)
    | none => none
  | .box t x => if arr1 P t then (lowX x).map (.boxa (keyOf o.dst)) else (lowX x).map (.box (keyOf o.dst))
  | .load t x => match cellsN P t, lowX x with
    | some n, some x => some (.ld n x)
    | _, _ => none
  | .store t x y => match P.info? t, lowX x, lowX y with
    | some i, some x, some y => if i.size = 0 then none else some (.st i.size x y)
    | _, _, _ => none
  | .nilCheck x => (lowX x).map .nilc
  | .fieldAddr s x f => match P.underlying s with
    | some (.struct fs) => match fs[f]? with
      | some f => match P.info? f.type with
        | some i => if i.size = 0 then none else (lowX x).map (.fa f.offset)
        | none => none
      | none => none
    | _ => none
  | .field s x f => match P.underlying s with
    | some (.struct fs) => match fs[f]? with
      | some f => match cellsN P f.type, lowX x with
        | some n, some x => some (.fld f.offset n x)
        | _, _ => none
      | none => none
    | _ => none
  | .indexAddr t x i => match P.underlying t with
    | some (.array len e) => match P.info? e, lowX x, lowX i with
      | some ti, some x, some i => match i with
        | .k (.int _ z) => if 0 ≤ z then some (.ixk len ti.size x z.toNat) else none
        | i => some (.ixa len ti.size x i)
      | _, _, _ => none
    | some (.slice e) => match P.info? e, lowX x, lowX i with
      | some ti, some x, some i => some (.ixs ti.size x i)
      | _, _, _ => none
    | _ => none
  | .index t x i => match P.underlying t with
    | some .string => match lowX x, lowX i with
      | some x, some i => some (.ixstr x i)
      | _, _ => none
    | some (.array n e) => match P.info? e, P.underlying e, lowX x, lowX i with
      | some ti, some d, some x, some i => if ti.size = 1 then if aggD d then none else some (.ixv n x i) else none
      | _, _, _, _ => none
    | _ => none
  | .binOp op t x y _ => match P.underlying t, lowX x with
    | some d, some a =>
      if ifcNil d y then (match op with
        | .eql => some (.isi false a)
        | .neq => some (.isi true a)
        | _ => none)
      else match (match y with | .const v => nilK d v | _ => none) with
      | some kd => match op with
        | .eql => some (.isn kd false a)
        | .neq => some (.isn kd true a)
        | _ => none
      | none => match lowX y with
        | none => none
        | some b =>
          if aggD d then
            if P.eqGuardType P.depth t then none else
            match flatS P 1000 t with
            | some sh => match op with
              | .eql => some (.eqa false sh a b)
              | .neq => some (.eqa true sh a b)
              | _ => none
            | none => none
          else match d with
            | .int _ => some (.bin op a b)
            | .string => some (.bin op a b)
            | .bool => some (.binb op a b)
            | _ => none
    | _, _ => none
  | .unOp op _ x => (lowX x).map (.un op)
  | .convert s d x => match P.underlying s, P.underlying d, lowX x with
    | some (.int _), some (.int k), some x => some (.conv k x)
    | some .string, some .string, some x => some (.cvs x)
    | some (.slice e), some .string, some x => match P.underlying e with
      | some (.int .u8) => some (.cvb x)
      | _ => none
    | _, _, _ => none
  | .build t ps => match ofZero P t, placeOf P t with
    | some z, some f => (partsOf f ps.toList).map (.bld z)
    | _, _ => none
  | .buildSlice t n ps => match P.underlying t with
    | some (.slice e) => match P.info? e, lowXs (ps.toList.map (·.2)) with
      | some ti, some xs => match ti.zero with
        | some _ => if ps.toList.map (·.1) = List.range n then if n * ti.size ≤ 2 ^ 24 then some (.bslt ti.size xs) else none else none
        | none => none
      | _, _ => none
    | _ => none
  | .slice t x lo hi mx => match mx with
    | none => match lowX x, lowO lo, lowO hi, P.underlying t with
      | some x, some lo, some hi, some .string => some (.slstr x lo hi)
      | some x, some lo, some hi, some (.slice e) => match P.info? e with
        | some ti => some (.sll ti.size x lo hi)
        | none => none
      | some x, some lo, some hi, some (.array n e) => match P.info? e with
        | some ti => some (.slp ti.size n x lo hi)
        | none => none
      | _, _, _, _ => none
    | some m => match lo, hi, lowX x, lowX m, P.underlying t with
      | none, some h, some x, some m, some (.slice e) => match P.info? e, lowX h with
        | some ti, some h => some (.clip ti.size x h m)
        | _, _ => none
      | _, _, _, _, _ => none
  | .makeSlice t l c => if sameO l c then match P.underlying t, lowX l with
      | some (.slice e), some l => match P.info? e, zeroT P e with
        | some i, some z => if i.size = 0 ∨ i.bytes = 0 ∨ z.cells.length ≠ i.size ∨ 65536 < i.bytes then none else if flatB z then some (.mks (keyOf o.dst) i.size i.bytes z l) else none
        | _, _ => none
      | _, _ => none
    else none
  | .makeFunc f a b => match lowXs a.toList, lowXs b.toList with
    | some a, some b => some (.mkf f a b)
    | _, _ => none
  | .makeMap t r => match P.underlying t, r with
    | some (.map _ _), none => some (.mkm (keyOf o.dst))
    | _, _ => none
  | .insert t m k v => match P.underlying t, lowX m, lowX k, lowX v with
    | some (.map kt _), some m, some k, some v => match P.underlying kt with
      | some (.int _) => some (.ins false m k v)
      | some .string => some (.ins true m k v)
      | _ => none
    | _, _, _, _ => none
  | .lookup t m k ok => match P.underlying t, lowX m, lowX k with
    | some (.map kt et), some m, some k => if i64B P kt && i64B P et && !ok then (match zeroT P et with | some (.int .i64 n) => if n = 0 then some (.lkpi m k) else none | _ => none) else match P.underlying kt, zeroT P et with
      | some (.int _), some z => some (.lkp false z ok m k)
      | some .string, some z => some (.lkp true z ok m k)
      | _, _ => none
    | _, _, _ => none
  | .mapUpdate t m k v => match P.underlying t, lowX m, lowX k, lowX v with
    | some (.map kt et), some m, some k, some v => if i64B P kt && i64B P et then some (.updi m k v) else none
    | _, _, _, _ => none
  | .extract x i => (lowX x).map (.ext · i)
  | .makeInterface t x => if P.concrete t then (lowX x).map (.mki t) else none
  | .typeAssert x _ t ok => if P.concrete t && tasB P then match zeroT P t with
      | some z => (lowX x).map (.tas t z ok)
      | none => none
    else none
  | .panic x => (lowX x).map .pan
  | .call c => lowCall P o c
  | _ => none

def lowOp (P : Program) (o : Oper) : Option MK := match lowOp0 P o with
  | some k => some k
  | none => some .stop
def lowG (ops : Array Oper) (o : Oper) : Option (Option (Nat × Bool)) :=
  match o.guard with
  | none => some none
  | some (j, b) => match (ops[j]?).bind (·.dst) with
    | some t => some (some (t, b))
    | none => none
def lowOps (P : Program) (ops : Array Oper) : List Oper → Option (List MOp)
  | [] => some []
  | o :: r => match lowOp P o, lowG ops o, lowOps P ops r with
    | some k, some g, some l => some (⟨o.dst, k, g⟩ :: l)
    | _, _, _ => none
def preOf (o : Oper) : List Nat := (o.after.toList.filter (Region.binds .any)).map (·.on)
def maskOf (acc : List Nat) : List Nat → Nat
  | [] => 0
  | i :: r => (1 <<< i ||| (acc[i]?).getD 0) ||| maskOf acc r
def closure : List (List Nat) → List Nat → List Nat
  | [], acc => acc
  | p :: r, acc => closure r (acc ++ [maskOf acc p])
def opdT : Opd → List Nat
  | .t i => [i]
  | _ => []
def rdT (m : MOp) : List Nat := (match m.g with | some p => [p.1] | none => []) ++ (opds m.op).flatMap opdT
def apartT (x y : MOp) : Bool :=
  (match x.d with
   | some d => !(rdT y).contains d && y.d != some d
   | none => true) &&
  (match y.d with
   | some d => !(rdT x).contains d
   | none => true)
def hasK : MK → Bool
  | .mv _ | .pick _ _ _ | .nilc _ | .fa _ _ | .fld _ _ _ | .ixstr _ _ | .bin _ _ _ | .binb _ _ _ | .eqa _ _ _ _ | .un _ _ | .conv _ _ | .cvs _ | .bld _ _ | .ext _ _ | .lens _ | .mx _ _ | .mn _ _
  | .slstr _ _ _ | .ixv _ _ _ | .mkf _ _ _ | .mki _ _ | .tas _ _ _ _ | .isi _ _ => false
  | _ => true
def needPair (x y : MOp) : Bool := hasK x.op && hasK y.op
def pairsAt (ml : List MOp) (cl : List Nat) (j : Nat) : List Nat → Option (List (Nat × Nat))
  | [] => some []
  | i :: r => match ml[i]?, ml[j]?, pairsAt ml cl j r with
    | some x, some y, some l =>
      if ((cl[j]?).getD 0).testBit i then some l
      else if apartT x y then (if needPair x y then some ((i, j) :: l) else some l) else none
    | _, _, _ => none
def pairsOf (ml : List MOp) (cl : List Nat) : List Nat → Option (List (Nat × Nat))
  | [] => some []
  | j :: r => match pairsAt ml cl j (List.range j), pairsOf ml cl r with
    | some l, some l' => some (l ++ l')
    | _, _ => none
def edgesOk : Nat → List Oper → Bool
  | _, [] => true
  | i, o :: r => (preOf o).all (· < i) && edgesOk (i + 1) r
def lowDraw (ops : List Oper) (ml : List MOp) : Option (List (Nat × Nat)) :=
  if edgesOk 0 ops then pairsOf ml (closure (ops.map preOf) []) (List.range ml.length) else none
def low (P : Program) : Code → Option MC
  | .skip => some .skip
  | .region _ ops d => match lowOps P ops ops.toList with
    | some ml => if d then (if P.follows .mixedOrders then (lowDraw ops.toList ml).map fun ps => .reg ml (some ps) else none) else some (.reg ml none)
    | none => none
  | .seq a b => match low P a, low P b with
    | some x, some y => some (.seq x y)
    | _, _ => none
  | .cond c a b => match lowX c, low P a, low P b with
    | some c, some x, some y => some (.cond c x y)
    | _, _, _ => none
  | .block i b => (low P b).map (.block i)
  | .loop b => (low P b).map .loop
  | .exit i => some (.exit i)
  | .ret => some .ret
  | _ => none
def lowRes (P : Program) : List ResultVar → Option (List Res)
  | [] => some []
  | r :: rs => match lowRes P rs with
    | some l => match r with
      | .tmp t => some (.tmp t :: l)
      | .cell t ty => match cellsN P ty with
        | some n => some (.cell t n :: l)
        | none => none
    | none => none
def lowFn (P : Program) (f : Func) : Option MFn :=
  match f.body with
  | some c => match low P c, lowRes P f.results.toList with
    | some m, some r => if f.name = "runtime.NumGoroutine" then none else some ⟨f.params.size + f.nfree, f.ntmps, r, m⟩
    | _, _ => none
  | none => none
end Go.Nx
end
section
set_option linter.unusedVariables false
set_option linter.unusedSimpArgs false
namespace Go.Nx
open Go.RowKit

theorem ofC_rel (S : Cells) (w : World) : ∀ n, (∀ v x, ofC n v = some x → RelT S w x v) ∧
    (∀ l xs, ofCs n l = some xs → l.length = xs.length ∧ ∀ (i : Nat) (c : T) (u : Value), xs[i]? = some c → l[i]? = some u → RelT S w c u) := by
  intro n
  induction n with
  | zero => exact ⟨fun v x h => by simp [ofC] at h, fun l xs h => by simp [ofCs] at h⟩
  | succ n ih =>
    refine ⟨fun v x h => ?_, fun l xs h => ?_⟩
    · unfold ofC at h
      split at h <;> try (cases h <;> first | exact .bool _ | exact .int _ _ | exact .str _ | exact .nils | exact .nilfn | exact .nilif | exact .nilptr | exact .nilmap)
      · rename_i cs
        cases e : ofCs n cs.toList with
        | none => simp [e] at h
        | some xs =>
          simp [e] at h; subst h
          obtain ⟨h1, h2⟩ := ih.2 _ _ e
          refine .agg xs cs (by simpa using h1) fun i c u hc hu => h2 i c u hc (by simpa using hu)
    · unfold ofCs at h
      split at h
      · cases h; exact ⟨rfl, fun i c u hc => by simp at hc⟩
      · rename_i v r
        split at h
        · rename_i x ys e1 e2
          cases h
          obtain ⟨h1, h2⟩ := ih.2 _ _ e2
          refine ⟨by simp [h1], fun i c u hc hu => ?_⟩
          cases i with
          | zero => simp at hc hu; subst hc; subst hu; exact ih.1 _ _ e1
          | succ i => exact h2 i c u (by simpa using hc) (by simpa using hu)
        · cases h

theorem RelV.of_ts {S : Cells} {w : World} {ρ : Infos} {own : Own} {ts : List T} {arr : Array Value} (h : ∀ (i : Nat) (c : T) (v : Value), ts[i]? = some c → arr[i]? = some v → RelT S w c v)
    (i : Nat) (c : V) (v : Value) (hc : (ts.map V.t)[i]? = some c) (hv : arr[i]? = some v) : RelV S w ρ own c v := by
  simp only [List.getElem?_map, Option.map_eq_some_iff] at hc
  obtain ⟨x, hx, rfl⟩ := hc
  exact .t _ _ (h i x v hx hv)
theorem rel_aggV {S : Cells} {w : World} {ρ : Infos} {own : Own} {cs : List V} {arr : Array Value} (hn : arr.size = cs.length) (h : ∀ (i : Nat) (c : V) (v : Value), cs[i]? = some c → arr[i]? = some v → RelV S w ρ own c v) :
    RelV S w ρ own (aggV cs) (.agg arr) := by
  unfold aggV
  split
  · rename_i ts e
    have e2 := unT_some e
    subst e2
    exact .t _ _ (.agg ts arr (by simpa using hn) fun i c v hc hv => (h i (.t c) v (by simp [hc]) hv).t_of)
  · exact .agg cs arr hn h
theorem rel_tupV {S : Cells} {w : World} {ρ : Infos} {own : Own} {cs : List V} {arr : Array Value} (hn : arr.size = cs.length) (h : ∀ (i : Nat) (c : V) (v : Value), cs[i]? = some c → arr[i]? = some v → RelV S w ρ own c v) :
    RelV S w ρ own (tupV cs) (.tuple arr) := by
  unfold tupV
  split
  · rename_i ts e
    have e2 := unT_some e
    subst e2
    exact .t _ _ (.tup ts arr (by simpa using hn) fun i c v hc hv => (h i (.t c) v (by simp [hc]) hv).t_of)
  · exact .tup cs arr hn h

def Enter (P : Program) (f : FuncId) : Prop := ∃ fn, P.funcs[f]? = some fn ∧ fn.body.isSome = true ∧ fn.name ≠ "runtime.NumGoroutine"
def fresh (S : Cells) (w w' : World) : Cells := fun b o => S b o ∨ (w.heap.size ≤ b ∧ b < w'.heap.size)
def Good (Γ : Env) (B : Base) (st : St) (a : Act) (w : World) : Prop := ∃ S ρ, Rel Γ B S ρ st a w

def Did (P : Program) (Γ : Env) (B : Base) (o : Oper) (a : Act) (w : World) (tm : List V) (K : V → Own → Log → Prop) : Prop :=
  ∃ v own' log S' ρ' w' u, K v own' log ∧ Rel Γ B S' ρ' ⟨tm, own'⟩ a w' ∧ RelV S' w' ρ' own' v u ∧
    ((execOp a.eval o).run P w = .ok (.value u) w' ∨ (execOp a.eval o).run P w = .ok .skip w' ∧ u = undef)

section
variable {P : Program} {Γ : Env} {B : Base} {S : Cells} {ρ : Infos} {tm : List V} {own : Own} {a : Act} {w : World}
variable {o : Oper} {K : V → Own → Log → Prop} {log : Log} {dr : Bool}

theorem did_val {v : V} {u : Value} (h : K v own log) (hr : Rel Γ B S ρ ⟨tm, own⟩ a w) (hv : RelV S w ρ own v u) (hrun : (execOp a.eval o).run P w = .ok (.value u) w) : Did P Γ B o a w tm K :=
  ⟨v, own, log, S, ρ, w, u, h, hr, hv, .inl hrun⟩
theorem rel_undef {S : Cells} {w : World} {ρ : Infos} {own : Own} : RelV S w ρ own (.t .undef) undef := .t _ _ (.tup [] #[] rfl fun i c u h => by simp at h)

theorem ev_rel (hr : Rel Γ B S ρ ⟨tm, own⟩ a w) {x : Operand} {x' : Opd} {v : V} (hx : lowX x = some x') (hv : evF Γ tm x' = some v) : RelV S w ρ own v (a.eval x) := by
  cases x with
  | tmp t => simp [lowX] at hx; subst hx; exact hr.ev hv
  | const c =>
    simp only [lowX] at hx
    cases e : ofC 400 c with
    | none => simp [e] at hx
    | some y =>
      simp [e] at hx; subst hx
      simp [evF] at hv; subst hv
      exact .t _ _ ((ofC_rel S w 400).1 _ _ e)
  | global g =>
    simp [lowX] at hx; subst hx
    simp only [evF] at hv
    cases e : Γ.gl g with
    | none => simp [e] at hv
    | some cs =>
      simp [e] at hv; subst hv
      have h := hr.mem.gl g cs e
      refine .t _ _ (.ref cs g 0 (fun i => (w.cell? ⟨g, i, none⟩).getD undef) (fun i hi => ?_) fun i c hc => ?_)
      · obtain ⟨h1, u, h2, h3⟩ := h i cs[i] (by simp [hi])
        rw [Nat.zero_add]
        exact ⟨h1, by rw [h2]; rfl⟩
      · obtain ⟨h1, u, h2, h3⟩ := h i c hc
        rw [h2]; exact h3
  | func f =>
    simp [lowX] at hx; subst hx
    simp [evF] at hv; subst hv
    exact .t _ _ (.fn _ [] [] #[] #[] rfl rfl (fun i c u h => by simp at h) (fun i c u h => by simp at h))

theorem push_get (heap : Array Obj) (o : Obj) : (heap.push o)[heap.size]? = some o := by simp
theorem ofZero_spec {t : TypeId} {z : List T} (h : ofZero P t = some z) : ∃ i v, P.info? t = some i ∧ i.zero = some v ∧ v.cells.size = z.length ∧
    ∀ (S : Cells) (w : World) (i : Nat) (c : T) (u : Value), z[i]? = some c → v.cells[i]? = some u → RelT S w c u := by
  unfold ofZero at h
  split at h
  · rename_i i hi
    split at h
    · rename_i v hv
      refine ⟨i, v, hi, hv, ?_, fun S w => ?_⟩
      · have := ((ofC_rel (fun _ _ => False) (default : World) 400).2 _ _ h).1
        simpa using this
      · have := ((ofC_rel S w 400).2 _ _ h).2
        simpa using this
    · cases h
  · cases h

theorem cell_eq_of {x : T} (h : x.one = true) : x.cells = [x] := by cases x <;> first | rfl | (simp [T.one] at h)

theorem flat_one {x : T} (h : x.one = true) : Flat 1 x := by
  refine ⟨by rw [cell_eq_of h]; rfl, fun c hc => ?_⟩
  rw [cell_eq_of h] at hc
  simp at hc; subst hc; exact h
theorem new_cells (hr : Rel Γ B S ρ ⟨tm, own⟩ a w) {k : Nat} {cs : List V} {arr : Array Value} {e : TypeId} (hf : look k own = none) (hn : arr.size = cs.length)
    (h : ∀ (i : Nat) (c : V) (v : Value), cs[i]? = some c → arr[i]? = some v → RelV S w ρ own c v) :
    ∃ ρ' : Infos, Rel Γ B S ρ' ⟨tm, (k, .cells cs) :: own⟩ a { w with heap := w.heap.push (.cells arr e) } ∧ RelV S { w with heap := w.heap.push (.cells arr e) } ρ' ((k, .cells cs) :: own) (.ptr k 0) (.pointer (some ⟨w.heap.size, 0, none⟩)) := by
  have hk := Keep.alloc (fun _ _ => False) w (.cells arr e)
  obtain ⟨ρ', h1, h2⟩ := hr.grow (k := k) (blk := .cells cs) (w' := { w with heap := w.heap.push (.cells arr e) }) (S' := S) ⟨w.heap.size, .nilFunc⟩ hf hk (fun _ _ h => h) (fun _ _ h => .inl h)
    (fun b o hc => by
      have hc' : b = w.heap.size := hc
      subst hc'
      exact ⟨Nat.le_refl _, by simp, fun hs => by have := hr.mem.lt _ _ hs; omega⟩)
    (fun ρ' e1 e2 => by
      refine ⟨arr, e, by rw [e1]; simp, hn, fun i c v hc hv => ?_⟩
      exact RelV.mono (fun _ _ h => h) hk (fun _ _ h => h.elim) hr.mem.lt (OwnLe.cons _ hf) e2 (h i c v hc hv))
  refine ⟨ρ', h2, ?_⟩
  have := RelV.ptr (S := S) (w := { w with heap := w.heap.push (.cells arr e) }) (ρ := ρ') (own := (k, Blk.cells cs) :: own) k 0 (.cells cs) (by simp [look])
  rw [h1] at this; exact this
theorem new_lst (hr : Rel Γ B S ρ ⟨tm, own⟩ a w) {k sz C : Nat} {ts : List T} {arr : Array Value} {e : TypeId} (hf : look k own = none) (hsz : ∀ x ∈ ts, Flat sz x) (hC : ts.length ≤ C) (hC0 : C * sz ≤ arr.size)
    (h : ∀ (i : Nat) (x : T) (j : Nat) (c : T), ts[i]? = some x → x.cells[j]? = some c → ∃ v, arr[i * sz + j]? = some v ∧ RelT S w c v) :
    ∃ ρ' : Infos, ρ' k = ⟨w.heap.size, .slice (some ⟨w.heap.size, 0, none⟩) ts.length C⟩ ∧ Rel Γ B S ρ' ⟨tm, (k, .lst sz ts 0) :: own⟩ a { w with heap := w.heap.push (.cells arr e) } := by
  have hk := Keep.alloc (fun _ _ => False) w (.cells arr e)
  exact hr.grow (k := k) (blk := .lst sz ts 0) (w' := { w with heap := w.heap.push (.cells arr e) }) (S' := S) ⟨w.heap.size, .slice (some ⟨w.heap.size, 0, none⟩) ts.length C⟩ hf hk (fun _ _ h => h) (fun _ _ h => .inl h)
    (fun b o hc => by
      have hc' : b = w.heap.size := hc.1
      subst hc'
      exact ⟨Nat.le_refl _, by simp, fun hs => by have := hr.mem.lt _ _ hs; omega⟩)
    (fun ρ' e1 e2 => by
      refine ⟨hsz, some ⟨w.heap.size, 0, none⟩, C, by rw [e1], hC, .inr ⟨by rw [e1], arr, e, by rw [e1]; simp, hC0, fun i x j c hx hc => ?_⟩⟩
      obtain ⟨v, h1, h2⟩ := h i x j c hx hc
      exact ⟨v, h1, h2.keep (fun _ _ h => h) hk (fun _ _ h => h.elim) hr.mem.lt⟩)
theorem sl_whole {ρ' : Infos} {k sz C m : Nat} {ts : List T} {w' : World} {A : Option Addr} {own' : Own} (hl : look k own' = some (.lst sz ts m)) (hρ : (ρ' k).rv = .slice A ts.length C) (hC : ts.length ≤ C) (hA : 0 < C → ∃ b o, A = some ⟨b, o, none⟩) :
    RelV S w' ρ' own' (.sl k 0 none) (.slice A ts.length C) := by
  refine .sl k 0 none _ hl _ ⟨A, ts.length, C, rfl, hC, Nat.zero_le _, (fun _ => by simp), (fun l hl => by cases hl), A, C, hρ, fun _ => rfl, Nat.le_refl _, fun hc => ?_⟩
  obtain ⟨b, o, e⟩ := hA hc
  exact ⟨b, o, e, by simpa using e⟩

theorem op_alloc (hr : Rel Γ B S ρ ⟨tm, own⟩ a w) {t : TypeId} {z : List T} {k : Nat} (hz : ofZero P t = some z) (ho : o.op = .alloc t)
    (h : run dr (tagP z fun cs => .new k (.cells cs) (.ret (.ptr k 0))) own log K) : Did P Γ B o a w tm K := by
  obtain ⟨hf, h⟩ := new_elim (tagP_elim h)
  obtain ⟨i, v, hi, hv, hs, hrel⟩ := ofZero_spec hz
  obtain ⟨ρ', h1, h2⟩ := new_cells hr (k := k) (cs := z.map .t) (arr := v.cells) (e := t) hf (by simpa using hs) (RelV.of_ts (hrel S w))
  refine ⟨_, _, _, S, ρ', _, _, h, h1, h2, .inl ?_⟩
  simp [execOp, ho, Instr.alloc, zeroValue, typeInfo, hi, hv, newVar, newRow]
theorem ones_cells {ts : List T} (h1 : ∀ x ∈ ts, x.one = true) {arr : Array Value} (hs : arr.size = ts.length) (hrel : ∀ (i : Nat) (c : T) (u : Value), ts[i]? = some c → arr[i]? = some u → RelT S w c u) :
    ∀ (i : Nat) (x : T) (j : Nat) (c : T), ts[i]? = some x → x.cells[j]? = some c → ∃ v, arr[i * 1 + j]? = some v ∧ RelT S w c v := by
  intro i x j c hx hc
  rw [cell_eq_of (h1 x (List.mem_of_getElem? hx))] at hc
  cases j with
  | succ j => simp at hc
  | zero =>
    simp at hc; subst hc
    have hlt : i < arr.size := by
      rw [hs]
      rcases Nat.lt_or_ge i ts.length with h | h
      · exact h
      · rw [List.getElem?_eq_none h] at hx; cases hx
    have e : arr[i]? = some arr[i] := by simp [hlt]
    exact ⟨_, by simp, hrel i x _ hx e⟩
theorem op_alloca (hr : Rel Γ B S ρ ⟨tm, own⟩ a w) {t : TypeId} {z : List T} {k : Nat} (hz : ofZero P t = some z) (h1 : onesB z = true) (ho : o.op = .alloc t)
    (h : run dr (.new k (.lst 1 z 0) (.ret (.ptr k 0))) own log K) : Did P Γ B o a w tm K := by
  obtain ⟨hf, h⟩ := new_elim h
  obtain ⟨i, v, hi, hv, hs, hrel⟩ := ofZero_spec hz
  have one : ∀ x ∈ z, x.one = true := fun x hx => List.all_eq_true.1 h1 x hx
  obtain ⟨ρ', e1, hr'⟩ := new_lst hr (k := k) (sz := 1) (C := z.length) (ts := z) (arr := v.cells) (e := t) hf (fun x hx => flat_one (one x hx)) (Nat.le_refl _) (by omega) (ones_cells one hs (hrel S w))
  refine ⟨_, _, _, S, ρ', _, .pointer (some ⟨w.heap.size, 0, none⟩), h, hr', ?_, .inl ?_⟩
  · have := RelV.ptr (S := S) (w := { w with heap := w.heap.push (.cells v.cells t) }) (ρ := ρ') (own := (k, Blk.lst 1 z 0) :: own) k 0 (.lst 1 z 0) (by simp [look])
    rw [e1] at this; exact this
  · simp [execOp, ho, Instr.alloc, zeroValue, typeInfo, hi, hv, newVar, newRow]

theorem vone_cells {v : Value} (h : vone v = true) : v.cells = #[v] := by cases v <;> first | rfl | (simp [vone] at h)
theorem vone_one {v : Value} (h : vone v = true) : v.oneCell' = true := by cases v <;> first | rfl | (simp [vone] at h)
theorem RelV.vone {v : V} {u : Value} (h : RelV S w ρ own v u) (hv : v.one = true) : Nx.vone u = true := by
  cases h with
  | t x v h => exact (h.one hv).1
  | dead v => simp [V.one] at hv
  | agg => simp [V.one] at hv
  | tup => simp [V.one] at hv
  | sl k off len b h v hv' => obtain ⟨a, n, c, rfl, _⟩ := hv'; rfl
  | ptr | eptr | cl | ce | mp | fn => rfl
theorem RelV.cells {v : V} {u : Value} (h : RelV S w ρ own v u) (hf : v.flat) :
    u.cells.size = v.cells.length ∧ ∀ (i : Nat) (c : V) (z : Value), v.cells[i]? = some c → u.cells[i]? = some z → RelV S w ρ own c z := by
  cases h with
  | t x v h =>
    obtain ⟨h1, h2⟩ := RelT.cells h hf
    exact ⟨by simpa [V.cells] using h1, RelV.of_ts h2⟩
  | dead v => exact hf.elim
  | tup cs arr hn h => exact hf.elim
  | agg cs arr hn h => exact ⟨hn, h⟩
  | ptr k off b h =>
    refine ⟨rfl, fun i c z hc hz => ?_⟩
    cases i with
    | zero => simp [V.cells, Value.cells] at hc hz; subst hc; subst hz; exact .ptr k off b h
    | succ i => simp [V.cells] at hc
  | eptr k i j b h ad ha =>
    refine ⟨rfl, fun i' c z hc hz => ?_⟩
    cases i' with
    | zero => simp [V.cells, Value.cells] at hc hz; subst hc; subst hz; exact .eptr k i j b h ad ha
    | succ i => simp [V.cells] at hc
  | sl k off len b h v hv =>
    have hv' := hv
    obtain ⟨a', n, c, rfl, _⟩ := hv'
    refine ⟨rfl, fun i' c z hc hz => ?_⟩
    cases i' with
    | zero => simp [V.cells, Value.cells] at hc hz; subst hc; subst hz; exact .sl k off len b h _ hv
    | succ i => simp [V.cells] at hc
  | cl sz xs a h =>
    refine ⟨rfl, fun i' c z hc hz => ?_⟩
    cases i' with
    | zero => simp [V.cells, Value.cells] at hc hz; subst hc; subst hz; exact .cl sz xs a h
    | succ i => simp [V.cells] at hc
  | ce a =>
    refine ⟨rfl, fun i' c z hc hz => ?_⟩
    cases i' with
    | zero => simp [V.cells, Value.cells] at hc hz; subst hc; subst hz; exact .ce a
    | succ i => simp [V.cells] at hc
  | mp k b h =>
    refine ⟨rfl, fun i' c z hc hz => ?_⟩
    cases i' with
    | zero => simp [V.cells, Value.cells] at hc hz; subst hc; subst hz; exact .mp k b h
    | succ i => simp [V.cells] at hc
  | fn f xs ys a b hn hm h h' =>
    refine ⟨rfl, fun i' c z hc hz => ?_⟩
    cases i' with
    | zero => simp [V.cells, Value.cells] at hc hz; subst hc; subst hz; exact .fn f xs ys a b hn hm h h'
    | succ i => simp [V.cells] at hc
theorem RelV.cells_one {v : V} {u : Value} (h : RelV S w ρ own v u) (hf : v.flat) (h1 : ∀ c ∈ v.cells, c.one = true) : ∀ z ∈ u.cells.toList, Nx.vone z = true := by
  intro z hz
  obtain ⟨h3, h4⟩ := h.cells hf
  obtain ⟨i, hi⟩ := List.mem_iff_getElem?.1 hz
  have hlt : i < v.cells.length := by
    rw [← h3]
    rcases Nat.lt_or_ge i u.cells.size with h | h
    · exact h
    · rw [List.getElem?_eq_none (by simpa using h)] at hi; cases hi
  have e : v.cells[i]? = some v.cells[i] := by simp [hlt]
  exact (h4 i _ z e (by simpa using hi)).vone (h1 _ (List.mem_of_getElem? e))

theorem op_box (hr : Rel Γ B S ρ ⟨tm, own⟩ a w) {t : TypeId} {x : Operand} {k : Nat} {v : V} (hv : RelV S w ρ own v (a.eval x)) (ho : o.op = .box t x)
    (h : run dr (cellsP v fun cs => .new k (.cells cs) (.ret (.ptr k 0))) own log K) : Did P Γ B o a w tm K := by
  obtain ⟨h1, h2, h⟩ := cellsP_elim h
  obtain ⟨hf, h⟩ := new_elim h
  obtain ⟨g1, g2⟩ := hv.cells h1
  obtain ⟨ρ', h3, h4⟩ := new_cells hr (k := k) (cs := v.cells) (arr := (a.eval x).cells) (e := t) hf g1 g2
  refine ⟨_, _, _, S, ρ', _, _, h, h3, h4, .inl ?_⟩
  simp [execOp, ho, Instr.box, newVar, newRow]
theorem op_boxa (hr : Rel Γ B S ρ ⟨tm, own⟩ a w) {t : TypeId} {x : Operand} {k : Nat} {l : List T} (hv : RelT S w (.agg l) (a.eval x)) (ho : o.op = .box t x)
    (h : run dr (.req (∀ x ∈ l, x.one = true) (.new k (.lst 1 l 0) (.ret (.ptr k 0)))) own log K) : Did P Γ B o a w tm K := by
  obtain ⟨one, h⟩ := req_elim h
  obtain ⟨hf, h⟩ := new_elim h
  obtain ⟨arr, e1, c1, c2⟩ := hv.agg_of
  obtain ⟨ρ', e2, hr'⟩ := new_lst hr (k := k) (sz := 1) (C := l.length) (ts := l) (arr := arr) (e := t) hf (fun x hx => flat_one (one x hx)) (Nat.le_refl _) (by omega) (ones_cells one c1 c2)
  refine ⟨_, _, _, S, ρ', _, .pointer (some ⟨w.heap.size, 0, none⟩), h, hr', ?_, .inl ?_⟩
  · have := RelV.ptr (S := S) (w := { w with heap := w.heap.push (.cells arr t) }) (ρ := ρ') (own := (k, Blk.lst 1 l 0) :: own) k 0 (.lst 1 l 0) (by simp [look])
    rw [e2] at this; exact this
  · simp [execOp, ho, Instr.box, newVar, newRow, e1, Value.cells]

theorem cellsN_spec {t : TypeId} {n : Option Nat} (h : cellsN P t = some n) : ∃ d i, P.underlying t = some d ∧ P.info? t = some i ∧ ((n = none ∧ aggD d = false) ∨ (n = some i.size ∧ aggD d = true)) := by
  unfold cellsN at h
  split at h
  · rename_i d i h1 h2
    refine ⟨d, i, h1, h2, ?_⟩
    cases e : aggD d <;> simp [e] at h <;> simp [← h]
  · cases h
theorem run_isAgg {t : TypeId} {d : TypeDesc} (h : P.underlying t = some d) : (isAgg t).run P w = .ok (aggD d) w := by
  cases d <;> simp [isAgg, underlying, h, aggD]
theorem run_sizeOf {t : TypeId} {i : TypeInfo} (h : P.info? t = some i) : (sizeOf t).run P w = .ok i.size w := by
  simp [sizeOf, typeInfo, h]
theorem run_ld {t : TypeId} {n : Option Nat} {b off : Nat} (h : cellsN P t = some n) :
    (n = none → ∀ u, w.cell? ⟨b, off, none⟩ = some u → (loadVar t ⟨b, off, none⟩).run P w = .ok u w) ∧
    (∀ m, n = some m → ∀ l : List Value, l.length = m → (∀ (j : Nat) (u : Value), l[j]? = some u → w.cell? ⟨b, off + j, none⟩ = some u) → (loadVar t ⟨b, off, none⟩).run P w = .ok (.agg l.toArray) w) := by
  obtain ⟨d, i, h1, h2, h3⟩ := cellsN_spec h
  refine ⟨fun e u hu => ?_, fun m e l hl hc => ?_⟩
  · rcases h3 with ⟨_, h3⟩ | ⟨h3, _⟩
    · simp [loadVar, run_isAgg h1, h3, hu]
    · rw [e] at h3; cases h3
  · rcases h3 with ⟨h3, _⟩ | ⟨h3, h4⟩
    · rw [e] at h3; cases h3
    · rw [e] at h3; cases h3
      have := run_loadCells_list (P := P) (w := w) ⟨b, off, none⟩ l (fun j v hv => by
        have := hc j v hv
        by_cases z : j = 0
        · subst z; simpa [Addr.add] using this
        · simpa [Addr.add, z] using this)
      simp [loadVar, run_isAgg h1, h4, run_sizeOf h2, ← hl, this]
theorem op_ld_val {t : TypeId} {x : Operand} {b off : Nat} (ho : o.op = .load t x) (hx : a.eval x = .pointer (some ⟨b, off, none⟩)) {u : Value} (h : (loadVar t ⟨b, off, none⟩).run P w = .ok u w) :
    (execOp a.eval o).run P w = .ok (.value u) w := by
  simp [execOp, ho, hx, Instr.loadAt, Instr.sureAddr, h]
theorem take_list {α : Type} {l : List α} {o m : Nat} (h : m = 0 ∨ o + m ≤ l.length) : ((l.drop o).take m).length = m := by
  simp; rcases h with h | h <;> omega
theorem take_get {α : Type} {l : List α} {o m j : Nat} {x : α} (h : ((l.drop o).take m)[j]? = some x) : l[o + j]? = some x ∧ j < m := by
  rw [List.getElem?_take] at h
  split at h
  · rename_i hj
    rw [List.getElem?_drop] at h
    exact ⟨h, hj⟩
  · cases h
theorem rd_cells {t : TypeId} {n : Option Nat} {b off : Nat} {arr : Nat → Value} {cs : List V} (hc : cellsN P t = some n)
    (hcell : ∀ (j : Nat) (c : V), cs[j]? = some c → w.cell? ⟨b, off + j, none⟩ = some (arr j) ∧ RelV S w ρ own c (arr j)) {i : Nat} (h : run dr (rdP cs i n .ret) own log K) :
    ∃ v u, K v own log ∧ RelV S w ρ own v u ∧ (loadVar t ⟨b, off + i, none⟩).run P w = .ok u w := by
  rcases rdP_elim h with ⟨e, x, hx, hK⟩ | ⟨m, e, hm, hK⟩
  · obtain ⟨h1, h2⟩ := hcell i x hx
    exact ⟨_, _, hK, h2, (run_ld hc).1 e _ h1⟩
  · have hl : ((List.range m).map fun j => arr (i + j)).length = m := by simp
    refine ⟨_, _, hK, ?_, (run_ld hc).2 m e ((List.range m).map fun j => arr (i + j)) hl fun j u hu => ?_⟩
    · refine rel_aggV (by simp; rcases hm with hm | hm <;> omega) fun j c u hc hu => ?_
      obtain ⟨h1, h2⟩ := take_get hc
      obtain ⟨h3, h4⟩ := hcell (i + j) c h1
      simp [h2] at hu; subst hu
      exact h4
    · have hj : j < m := by
        rcases Nat.lt_or_ge j m with h | h
        · exact h
        · simp [h] at hu
      simp [hj] at hu; subst hu
      have hlt : i + j < cs.length := by rcases hm with hm | hm <;> omega
      have := (hcell (i + j) cs[i + j] (by simp [hlt])).1
      rwa [Nat.add_assoc]
theorem rd_known {t : TypeId} {n : Option Nat} {b off : Nat} {arr : Nat → Value} {cs : List T} (hc : cellsN P t = some n)
    (hcell : ∀ (j : Nat) (c : T), cs[j]? = some c → w.cell? ⟨b, off + j, none⟩ = some (arr j) ∧ RelT S w c (arr j)) {i : Nat} (h : run dr (rdTP cs i n .ret) own log K) :
    ∃ v u, K v own log ∧ RelV S w ρ own v u ∧ (loadVar t ⟨b, off + i, none⟩).run P w = .ok u w := by
  rcases rdTP_elim h with ⟨e, x, hx, hK⟩ | ⟨m, e, hm, hK⟩
  · obtain ⟨h1, h2⟩ := hcell i x hx
    exact ⟨_, _, hK, .t _ _ h2, (run_ld hc).1 e _ h1⟩
  · have hl : ((List.range m).map fun j => arr (i + j)).length = m := by simp
    refine ⟨_, _, hK, ?_, (run_ld hc).2 m e ((List.range m).map fun j => arr (i + j)) hl fun j u hu => ?_⟩
    · refine .t _ _ (.agg _ _ (by simp; rcases hm with hm | hm <;> omega) fun j c u hc hu => ?_)
      obtain ⟨h1, h2⟩ := take_get hc
      obtain ⟨h3, h4⟩ := hcell (i + j) c h1
      simp [h2] at hu; subst hu
      exact h4
    · have hj : j < m := by
        rcases Nat.lt_or_ge j m with h | h
        · exact h
        · simp [h] at hu
      simp [hj] at hu; subst hu
      have hlt : i + j < cs.length := by rcases hm with hm | hm <;> omega
      have := (hcell (i + j) cs[i + j] (by simp [hlt])).1
      rwa [Nat.add_assoc]
theorem lst_cells {ts : List T} {arr : Array Value} (h : ∀ x ∈ ts, x.one = true)
    (h6 : ∀ (i : Nat) (x : T) (j : Nat) (c : T), ts[i]? = some x → x.cells[j]? = some c → ∃ v, arr[i * 1 + j]? = some v ∧ RelT S w c v) (i : Nat) (x : T) (hi : ts[i]? = some x) : ∃ u, arr[i]? = some u ∧ RelT S w x u := by
  have h1 := h x (List.mem_of_getElem? hi)
  simpa using h6 i x 0 x hi (by simp [cell_eq_of h1])
theorem ptr_of {k off : Nat} {u : Value} (h : RelV S w ρ own (.ptr k off) u) : u = .pointer (some ⟨(ρ k).blk, off, none⟩) := by cases h; rfl
theorem eptr_of {k i j : Nat} {u : Value} {sz m : Nat} {ts : List T} (h : RelV S w ρ own (.eptr k i j) u) (hl : look k own = some (.lst sz ts m)) : u = .pointer (some ⟨(ρ k).blk, i * sz + j, none⟩) := by
  cases h with
  | eptr _ _ _ b h ad ha =>
    rw [hl] at h; cases h
    rw [ha _ _ _ rfl]
theorem lst0_cells (hr : Rel Γ B S ρ ⟨tm, own⟩ a w) {k sz : Nat} {ts : List T} (hl : look k own = some (.lst sz ts 0)) (hne : ts ≠ []) :
    ∃ C arr e, (ρ k).rv = .slice (some ⟨(ρ k).blk, 0, none⟩) ts.length C ∧ ts.length ≤ C ∧ w.heap[(ρ k).blk]? = some (.cells arr e (0, 0)) ∧ C * sz ≤ arr.size ∧
      (∀ x ∈ ts, Flat sz x) ∧ ∀ (i : Nat) (x : T) (j : Nat) (c : T), ts[i]? = some x → x.cells[j]? = some c → ∃ v, arr[i * sz + j]? = some v ∧ RelT S w c v := by
  obtain ⟨h0, A, C, h1, h2, h3⟩ := hr.mem.blk k _ hl
  rcases h3 with h3 | ⟨h3, arr, e, h4, h5, h6⟩
  · exact (hne (List.eq_nil_of_length_eq_zero (by omega))).elim
  · exact ⟨C, arr, e, by rw [h1, h3], h2, h4, h5, h0, h6⟩

theorem op_ld (hr : Rel Γ B S ρ ⟨tm, own⟩ a w) {t : TypeId} {x : Operand} {n : Option Nat} {v : V} (hv : RelV S w ρ own v (a.eval x)) (hc : cellsN P t = some n) (ho : o.op = .load t x) {base : Nat} {y : Opd}
    (h : run dr (prog base (.ld n y) [v]) own log K) : Did P Γ B o a w tm K := by
  simp only [prog] at h
  split at h
  · rename_i k off
    obtain ⟨b, hb, h⟩ := rd_elim h
    have e1 := ptr_of hv
    have hB := hr.mem.blk k b hb
    split at h
    · obtain ⟨arr, e, h1, h2, h3⟩ := hB
      rename_i cs
      obtain ⟨v, u, hK, hv', hrun⟩ := rd_cells (S := S) (ρ := ρ) (b := (ρ k).blk) (off := 0) (arr := fun j => (arr[j]?).getD undef) (cs := cs) (w := w) hc (fun j c hcj => by
        have hlt : j < arr.size := by
          rw [h2]
          rcases Nat.lt_or_ge j cs.length with h | h
          · exact h
          · rw [List.getElem?_eq_none h] at hcj; cases hcj
        have e6 : arr[j]? = some arr[j] := by simp [hlt]
        rw [cell_row h1, Nat.zero_add, e6]
        exact ⟨rfl, h3 j c _ hcj e6⟩) h
      rw [Nat.zero_add] at hrun
      exact did_val hK hr hv' (op_ld_val ho e1 hrun)
    · rename_i cs
      obtain ⟨v, u, hK, hv', hrun⟩ := rd_known (S := S) (ρ := ρ) (b := (ρ k).blk) (off := 0) (arr := fun j => (w.cell? ⟨(ρ k).blk, j, none⟩).getD undef) (cs := cs) (w := w) hc (fun j c hcj => by
        obtain ⟨_, u, hu, hr'⟩ := hB j c hcj
        rw [Nat.zero_add, hu]; exact ⟨rfl, hr'⟩) h
      rw [Nat.zero_add] at hrun
      exact did_val hK hr hv' (op_ld_val ho e1 hrun)
    · rename_i sz ts m
      split at h
      · rename_i nn hh
        clear hh
        replace h := req_elim h
        obtain ⟨⟨g1, g2⟩, h⟩ := h
        have key : ∃ arr : Nat → Value, ∀ (j : Nat) (c : T), ts[j]? = some c → w.cell? ⟨(ρ k).blk, 0 + j, none⟩ = some (arr j) ∧ RelT S w c (arr j) := by
          by_cases hne : ts = []
          · exact ⟨fun _ => undef, fun j c hcj => by subst hne; simp at hcj⟩
          · obtain ⟨C, arr, e, h1, h2, h3, h4, h5, h6⟩ := lst0_cells hr hb hne
            refine ⟨fun j => (arr[j]?).getD undef, fun j c hcj => ?_⟩
            obtain ⟨z, hz, hr'⟩ := lst_cells g2 h6 j c hcj
            rw [cell_row h3, Nat.zero_add]
            simp only [hz, Option.getD_some]
            exact ⟨trivial, hr'⟩
        obtain ⟨arr, harr⟩ := key
        have hl : ((List.range nn).map arr).length = nn := by simp
        refine did_val h hr (u := .agg ((List.range nn).map arr).toArray) (.t _ _ (.agg ts _ (by simp [g1]) fun j c u hcj hu => ?_)) (op_ld_val ho e1 ((run_ld hc).2 nn rfl _ hl fun j u hu => ?_))
        · obtain ⟨_, hr'⟩ := harr j c hcj
          have hj : j < nn := by
            rw [← g1]
            rcases Nat.lt_or_ge j ts.length with h | h
            · exact h
            · rw [List.getElem?_eq_none h] at hcj; cases hcj
          simp [hj] at hu; subst hu; exact hr'
        · have hj : j < nn := by
            rcases Nat.lt_or_ge j nn with h | h
            · exact h
            · simp [h] at hu
          have := (harr j ts[j] (by simp [g1, hj])).1
          simp [hj] at hu; subst hu
          exact this
      · exact h.elim
    · exact h.elim
  · rename_i k i j
    obtain ⟨b, hb, h⟩ := rd_elim h
    split at h
    · rename_i sz ts m
      split at h
      · obtain ⟨h0, y', hy, h⟩ := nth_elim h
        obtain ⟨_, _, h⟩ := cellsTP_elim h
        have e1 := eptr_of hv hb
        obtain ⟨C, arr, e, h1, h2, h3, h4, h5, h6⟩ := lst0_cells hr hb (fun hn => by subst hn; simp at hy)
        obtain ⟨v, u, hK, hv', hrun⟩ := rd_known (S := S) (ρ := ρ) (b := (ρ k).blk) (off := i * sz) (arr := fun j => (arr[i * sz + j]?).getD undef) (cs := y'.cells) (w := w) hc (fun j c hc => by
          obtain ⟨u, hu, hr'⟩ := h6 i y' j c (by simpa using hy) hc
          rw [cell_row h3, hu]
          exact ⟨rfl, hr'⟩) h
        exact did_val hK hr hv' (op_ld_val ho e1 hrun)
      · exact h.elim
    · exact h.elim
  · rename_i cs
    have hv' := hv.t_of
    generalize hx : a.eval x = u at hv'
    cases hv' with
    | ref _ b o' uu ha hh =>
      obtain ⟨v, u, hK, hv', hrun⟩ := rd_known (S := S) (ρ := ρ) (b := b) (off := o') (arr := uu) (cs := cs) (w := w) hc (fun j c hcj => by
        have hlt : j < cs.length := by
          rcases Nat.lt_or_ge j cs.length with h | h
          · exact h
          · rw [List.getElem?_eq_none h] at hcj; cases hcj
        exact ⟨(ha j hlt).2, hh j c hcj⟩) h
      exact did_val hK hr hv' (op_ld_val ho hx hrun)
  · exact h.elim
end
end Go.Nx
end
section
set_option linter.unusedVariables false
set_option linter.unusedSimpArgs false
namespace Go.Nx
open Go.RowKit

theorem subL_eq (ts : List T) (off : Nat) (len : Option Nat) : subL ts off len = match len with
    | none => ts.drop off
    | some n => (ts.drop off).take n := by
  cases len with
  | none => cases off <;> simp [subL]
  | some n => cases off <;> rfl
theorem lenL_eq (ts : List T) (off : Nat) (len : Option Nat) : lenL ts off len = match len with
    | none => (ts.length : Int) - off
    | some n => n := by
  cases len with
  | none => cases off <;> simp [lenL]
  | some n => cases off <;> rfl
theorem sl_sub {rv v : Value} {sz m off : Nat} {ts : List T} {len : Option Nat} (h : SlOk rv (.lst sz ts m) off len v) :
    ∃ a c, v = .slice a (subL ts off len).length c ∧ (subL ts off len).length ≤ c ∧ ((subL ts off len).length : Int) = lenL ts off len ∧ off + (subL ts off len).length ≤ ts.length ∧
      (∀ i, i < (subL ts off len).length → (subL ts off len)[i]? = ts[off + i]?) ∧ (len = none → off + (subL ts off len).length = ts.length) ∧
      ∃ A C, rv = .slice A ts.length C ∧ (len = none → c = C - off) ∧ c ≤ C - off ∧ (0 < c → ∃ b o, A = some ⟨b, o, none⟩ ∧ a = some ⟨b, o + off * sz, none⟩) := by
  obtain ⟨a, n, c, e, hnc, h1, h2, h3, A, C, h4, h5, h6, h7⟩ := h
  have hn : (subL ts off len).length = n ∧ (n : Int) = lenL ts off len ∧ off + n ≤ ts.length ∧ (len = none → off + n = ts.length) := by
    rw [subL_eq, lenL_eq]
    cases len with
    | none => have := h2 rfl; simp; omega
    | some l => obtain ⟨g1, g2⟩ := h3 l rfl; simp; omega
  obtain ⟨hn, hn2, hn3, hn4⟩ := hn
  refine ⟨a, c, by rw [e, hn], by omega, by rw [hn]; exact hn2, by omega, fun i hi => ?_, fun hl => by rw [hn]; exact hn4 hl, A, C, h4, h5, h6, h7⟩
  rw [subL_eq]
  cases len with
  | none => simp
  | some l =>
    obtain ⟨g1, g2⟩ := h3 l rfl
    simp only [List.getElem?_take, List.getElem?_drop]
    rw [if_pos (by omega)]
theorem RelT.list_of {S : Cells} {w : World} {sz : Nat} {ts : List T} {a : Option Addr} {n c : Nat} (h : RelT S w (.list sz ts) (.slice a n c)) : n = ts.length ∧ ts.length ≤ c ∧ (∀ x ∈ ts, Flat sz x) ∧
    ∃ u : Nat → Nat → Value, (ts ≠ [] → ∃ b o, a = some ⟨b, o, none⟩ ∧ ∀ i j, i < ts.length → j < sz → S b (o + i * sz + j) ∧ w.cell? ⟨b, o + i * sz + j, none⟩ = some (u i j)) ∧
      ∀ (i : Nat) (x : T), ts[i]? = some x → ∀ (j : Nat) (c : T), x.cells[j]? = some c → RelT S w c (u i j) := by
  cases h with
  | list _ _ _ _ u hcap ha hsz hr => exact ⟨rfl, hcap, hsz, u, ha, hr⟩
theorem sl_list {S : Cells} {w : World} {rv v : Value} {sz m off : Nat} {ts : List T} {len : Option Nat} (hT : RelT S w (.list sz ts) rv) (h : SlOk rv (.lst sz ts m) off len v) : RelT S w (.list sz (subL ts off len)) v := by
  obtain ⟨a, c, e, hc, _, hle, hget, _, A, C, h4, h5, h6, h7⟩ := sl_sub h
  subst e
  rw [h4] at hT
  obtain ⟨_, g1, g2, u, g3, g4⟩ := hT.list_of
  refine .list sz _ a c (fun i j => u (off + i) j) hc (fun hne => ?_) (fun x hx => ?_) fun i x hx j c' hc' => ?_
  · have hpos : 0 < (subL ts off len).length := List.length_pos_iff.2 hne
    obtain ⟨b, o, e1, e2⟩ := h7 (by omega)
    have hne' : ts ≠ [] := fun hn => by
      have h0 : ts.length = 0 := by rw [hn]; rfl
      omega
    obtain ⟨b', o', e3, e4⟩ := g3 hne'
    rw [e1] at e3
    simp only [Option.some.injEq, Addr.mk.injEq] at e3
    obtain ⟨rfl, rfl, _⟩ := e3
    refine ⟨b, o + off * sz, e2, fun i j hi hj => ?_⟩
    have := e4 (off + i) j (by omega) hj
    rw [Nat.add_mul] at this
    rw [show o + off * sz + i * sz + j = o + (off * sz + i * sz) + j by omega]
    exact this
  · obtain ⟨i, hi⟩ := List.mem_iff_getElem?.1 hx
    have hlt : i < (subL ts off len).length := by
      rcases Nat.lt_or_ge i (subL ts off len).length with h | h
      · exact h
      · rw [List.getElem?_eq_none h] at hi; cases hi
    rw [hget i hlt] at hi
    exact g2 x (List.mem_of_getElem? hi)
  · have hlt : i < (subL ts off len).length := by
      rcases Nat.lt_or_ge i (subL ts off len).length with h | h
      · exact h
      · rw [List.getElem?_eq_none h] at hx; cases hx
    rw [hget i hlt] at hx
    exact g4 (off + i) x hx j c' hc'

section
variable {P : Program} {Γ : Env} {B : Base} {S : Cells} {ρ : Infos} {tm : List V} {own : Own} {a : Act} {w : World}
variable {o : Oper} {K : V → Own → Log → Prop} {log : Log} {dr : Bool}

structure Cvt (Γ : Env) (B : Base) (ρ : Infos) (tm : List V) (a : Act) (w : World) (own : Own) (S : Cells) (own' : Own) (S' : Cells) : Prop where
  rel : Rel Γ B S' ρ ⟨tm, own'⟩ a w
  v : ∀ v u, RelV S w ρ own v u → RelV S' w ρ own' v u
  t : ∀ x u, RelT S w x u → RelT S' w x u
theorem Cvt.refl (h : Rel Γ B S ρ ⟨tm, own⟩ a w) : Cvt Γ B ρ tm a w own S own S := ⟨h, fun _ _ h => h, fun _ _ h => h⟩
theorem Cvt.trans {own1 own2 : Own} {S1 S2 : Cells} (h : Cvt Γ B ρ tm a w own S own1 S1) (k : Cvt Γ B ρ tm a w own1 S1 own2 S2) : Cvt Γ B ρ tm a w own S own2 S2 :=
  ⟨k.rel, fun v u hv => k.v v u (h.v v u hv), fun x u hx => k.t x u (h.t x u hx)⟩
theorem cvt_of {own' : Own} {S' : Cells} (hr : Rel Γ B S ρ ⟨tm, own⟩ a w) (h : Rel Γ B S' ρ ⟨tm, own'⟩ a w) (hS : ∀ b o, S b o → S' b o) (hle : OwnLe own own') : Cvt Γ B ρ tm a w own S own' S' :=
  ⟨h, fun v u hv => RelV.mono hS (Keep.refl (fun _ _ => False) w) (fun _ _ h => h.elim) hr.mem.lt hle (fun _ _ _ => rfl) hv, fun x u hx => hx.keep hS (Keep.refl (fun _ _ => False) w) (fun _ _ h => h.elim) hr.mem.lt⟩

theorem frz_lst (hr : Rel Γ B S ρ ⟨tm, own⟩ a w) {k sz : Nat} {ts : List T} (hl : look k own = some (.lst sz ts 0)) : ∃ S', Cvt Γ B ρ tm a w own S (upd k (.lst sz ts 1) own) S' := by
  obtain ⟨h0, A, C, h1, h2, h3⟩ := hr.mem.blk k _ hl
  have hle : Ble (.lst sz ts 0) (.lst sz ts 1) := .inr ⟨ts, 1, rfl, rfl⟩
  by_cases hC : C = 0
  · subst hC
    have hts : ts = [] := List.eq_nil_of_length_eq_zero (by omega)
    subst hts
    refine ⟨S, cvt_of hr (hr.turn hl hle (Keep.refl _ w) (fun _ _ h => h) (fun _ _ h => .inl h) (fun b o hc => ?_) ?_) (fun _ _ h => h) (OwnLe.upd hl hle)⟩
    · obtain ⟨o', sp, n, cap, e, g1, g2⟩ := hc
      rw [h1] at e
      simp only [Value.slice.injEq] at e
      obtain ⟨_, _, rfl⟩ := e
      omega
    · refine ⟨?_, fun b o sp n cap hrv => ?_, fun n cap hrv => ?_⟩
      · rw [h1]; exact .list sz [] A 0 (fun _ _ => undef) (Nat.le_refl _) (fun h => (h rfl).elim) (fun x hx => by simp at hx) fun i x hx => by simp at hx
      · rw [h1] at hrv; simp only [Value.slice.injEq] at hrv; exact .inl (by rw [← hrv.2.2, ← hrv.2.1]; rfl)
      · rw [h1] at hrv; simp only [Value.slice.injEq] at hrv; exact hrv.2.2.symm
  · rcases h3 with h3 | ⟨h3, arr, e, h4, h5, h6⟩
    · exact (hC h3).elim
    · subst h3
      have hcl : claim (ρ k) (.lst sz ts 0) = fun b _ => b = (ρ k).blk := by
        funext b o
        apply propext
        exact ⟨fun h => h.1, fun h => ⟨h, _, _, _, h1, hC⟩⟩
      have hlen : ts.length * sz ≤ C * sz := Nat.mul_le_mul_right _ h2
      refine ⟨fun b o => S b o ∨ (b = (ρ k).blk ∧ o < ts.length * sz), ?_⟩
      have hS : ∀ b o, S b o → S b o ∨ (b = (ρ k).blk ∧ o < ts.length * sz) := fun _ _ h => .inl h
      refine cvt_of hr (hr.turn hl hle (Keep.refl _ w) hS (fun b o h => ?_) (fun b o hc => ?_) ?_) hS (OwnLe.upd hl hle)
      · rcases h with h | h
        · exact .inl h
        · rw [hcl]; exact .inr h.1
      · obtain ⟨o', sp, n, cap, e, g1, g2⟩ := hc
        rw [h1] at e
        simp only [Value.slice.injEq, Option.some.injEq, Addr.mk.injEq] at e
        obtain ⟨⟨rfl, rfl, _⟩, rfl, rfl⟩ := e
        have hc1 : claim (ρ k) (.lst sz ts 0) (ρ k).blk o := by rw [hcl]
        refine ⟨hc1, fun hs => ?_⟩
        rcases hs with hs | hs
        · exact (hr.mem.cl k _ hl _ _ hc1).2 hs
        · omega
      · have mono : ∀ x u, RelT S w x u → RelT (fun b o => S b o ∨ (b = (ρ k).blk ∧ o < ts.length * sz)) w x u := fun x u hx => hx.keep hS (Keep.refl (fun _ _ => False) w) (fun _ _ h => h.elim) hr.mem.lt
        refine ⟨?_, fun b o sp n cap hrv => ?_, fun n cap hrv => ?_⟩
        · rw [h1]
          refine .list sz ts _ C (fun i j => (arr[i * sz + j]?).getD undef) h2 (fun hne => ⟨(ρ k).blk, 0, rfl, fun i j hi hj => ?_⟩) h0 fun i x hx j c hc => ?_
          · have hb : i * sz + j < ts.length * sz := by
              have : (i + 1) * sz ≤ ts.length * sz := Nat.mul_le_mul_right _ hi
              rw [Nat.add_mul] at this; omega
            refine ⟨.inr ⟨rfl, by omega⟩, ?_⟩
            rw [cell_row h4, Nat.zero_add]
            have hlt : i * sz + j < arr.size := by omega
            simp [hlt]
          · obtain ⟨v, g1, g2⟩ := h6 i x j c hx hc
            simp only [g1, Option.getD_some]
            exact mono _ _ g2
        · rw [h1] at hrv
          simp only [Value.slice.injEq, Option.some.injEq, Addr.mk.injEq] at hrv
          obtain ⟨⟨rfl, rfl, rfl⟩, _, rfl⟩ := hrv
          exact .inr ⟨rfl, arr, e, h4, by omega⟩
        · rw [h1] at hrv; simp at hrv
theorem frz_cells (hr : Rel Γ B S ρ ⟨tm, own⟩ a w) {k : Nat} {cs : List V} {ts : List T} (hl : look k own = some (.cells cs)) (hn : ts.length = cs.length)
    (h : ∀ arr e, w.heap[(ρ k).blk]? = some (.cells arr e (0, 0)) → ∀ (i : Nat) (c : T) (v : Value), ts[i]? = some c → arr[i]? = some v → RelT S w c v) : ∃ S', Cvt Γ B ρ tm a w own S (upd k (.frz ts) own) S' := by
  obtain ⟨arr, e, h1, h2, h3⟩ := hr.mem.blk k _ hl
  have hle : Ble (.cells cs) (.frz ts) := .inr (.inr ⟨ts, rfl⟩)
  have hS : ∀ b o, S b o → S b o ∨ (b = (ρ k).blk ∧ o < ts.length) := fun _ _ h => .inl h
  refine ⟨fun b o => S b o ∨ (b = (ρ k).blk ∧ o < ts.length), cvt_of hr (hr.turn hl hle (Keep.refl _ w) hS (fun b o h => ?_) (fun b o hc => hc.elim) ?_) hS (OwnLe.upd hl hle)⟩
  · rcases h with h | h
    · exact .inl h
    · exact .inr h.1
  · intro i c hc
    have hi : i < ts.length := by
      rcases Nat.lt_or_ge i ts.length with h | h
      · exact h
      · rw [List.getElem?_eq_none h] at hc; cases hc
    have hlt : i < arr.size := by omega
    have ea : arr[i]? = some arr[i] := by simp [hlt]
    refine ⟨.inr ⟨rfl, hi⟩, arr[i], by rw [cell_row h1, ea], ?_⟩
    exact (h arr e h1 i c _ hc ea).keep hS (Keep.refl (fun _ _ => False) w) (fun _ _ h => h.elim) hr.mem.lt

def ToOk (n : Nat) : Prop := ∀ (Γ : Env) (B : Base) (ρ : Infos) (tm : List V) (a : Act) (w : World) (dr : Bool) (K : V → Own → Log → Prop) (S : Cells) (own : Own) (log : Log) (v : V) (u : Value) (f : T → Pg),
  Rel Γ B S ρ ⟨tm, own⟩ a w → RelV S w ρ own v u → run dr (toTP n v f) own log K →
  ∃ x own' S' log', run dr (f x) own' log' K ∧ Cvt Γ B ρ tm a w own S own' S' ∧ RelT S' w x u
theorem toTs_ok {n : Nat} (hn : ToOk n) : ∀ (vs : List V) (us : List Value) (S : Cells) (own : Own) (log : Log) (f : List T → Pg), us.length = vs.length → Rel Γ B S ρ ⟨tm, own⟩ a w →
    (∀ (i : Nat) (c : V) (z : Value), vs[i]? = some c → us[i]? = some z → RelV S w ρ own c z) → run dr (toTsWith (toTP n) vs f) own log K →
    ∃ xs own' S' log', run dr (f xs) own' log' K ∧ Cvt Γ B ρ tm a w own S own' S' ∧ xs.length = vs.length ∧ ∀ (i : Nat) (c : T) (z : Value), xs[i]? = some c → us[i]? = some z → RelT S' w c z := by
  intro vs
  induction vs with
  | nil => intro us S own log f hl hr _ h; exact ⟨[], own, S, log, h, .refl hr, rfl, fun i c z hc => by simp at hc⟩
  | cons v vs ih =>
    intro us S own log f hl hr hv h
    cases us with
    | nil => simp at hl
    | cons u us =>
      obtain ⟨x, own1, S1, log1, h1, c1, hx⟩ := hn Γ B ρ tm a w dr K S own log v u _ hr (hv 0 v u rfl rfl) h
      obtain ⟨xs, own2, S2, log2, h2, c2, hl2, hxs⟩ := ih us S1 own1 log1 _ (by simpa using hl) c1.rel (fun i c z hc hz => c1.v _ _ (hv (i + 1) c z (by simpa using hc) (by simpa using hz))) h1
      refine ⟨x :: xs, own2, S2, log2, h2, c1.trans c2, by simp [hl2], fun i c z hc hz => ?_⟩
      cases i with
      | zero => simp at hc hz; subst hc; subst hz; exact c2.t _ _ hx
      | succ i => exact hxs i c z (by simpa using hc) (by simpa using hz)
theorem toT_ok : ∀ n, ToOk n := by
  intro n
  induction n with
  | zero => intro Γ B ρ tm a w dr K S own log v u f hr hv h; exact h.elim
  | succ n ih =>
    intro Γ B ρ tm a w dr K S own log v u f hr hv h
    cases hv with
    | t x v hx => exact ⟨x, own, S, log, h, .refl hr, hx⟩
    | dead v => exact h.elim
    | cl sz xs ad hx => exact ⟨_, own, S, log, h, .refl hr, hx⟩
    | ce ad => exact h.elim
    | eptr => exact h.elim
    | mp => exact h.elim
    | sl k off len b hb v hs =>
      replace h := rd_elim h
      obtain ⟨b', hb', h⟩ := h
      rw [hb] at hb'; cases hb'
      split at h
      · rename_i sz ts m
        split at h
        · replace h := wr_elim h
          obtain ⟨S', c1⟩ := frz_lst hr hb
          have hB := c1.rel.mem.blk k (.lst sz ts 1) (by rw [look_upd hb]; simp)
          exact ⟨_, _, S', _, h, c1, sl_list (m := 1) hB.1 hs⟩
        · rename_i m'
          refine ⟨_, own, S, _, h, .refl hr, ?_⟩
          have hB := hr.mem.blk k _ hb
          match m', hB with
          | 0, hB => exact sl_list hB.1 hs
          | m' + 1, hB => exact sl_list hB hs
      · exact h.elim
    | ptr k off b hb =>
      replace h := rd_elim h
      obtain ⟨b', hb', h⟩ := h
      rw [hb] at hb'; cases hb'
      have fin : ∀ (S' : Cells) (own' : Own) (ts : List T), Cvt Γ B ρ tm a w own S own' S' → look k own' = some (.frz ts) → RelT S' w (.ref (ts.drop off)) (.pointer (some ⟨(ρ k).blk, off, none⟩)) := by
        intro S' own' ts hc hl
        have hB := hc.rel.mem.blk k _ hl
        refine .ref _ _ _ (fun i => (w.cell? ⟨(ρ k).blk, off + i, none⟩).getD undef) (fun i hi => ?_) fun i c hc => ?_
        · have hlt : off + i < ts.length := by simp at hi; omega
          obtain ⟨g1, u, g2, g3⟩ := hB (off + i) ts[off + i] (by simp [hlt])
          exact ⟨g1, by simp [g2]⟩
        · rw [List.getElem?_drop] at hc
          obtain ⟨g1, u, g2, g3⟩ := hB (off + i) c hc
          simpa [g2] using g3
      split at h
      · exact ⟨_, own, S, _, h, .refl hr, fin S own _ (.refl hr) hb⟩
      · rename_i cs
        obtain ⟨arr, e, h1, h2, h3⟩ := hr.mem.blk k _ hb
        obtain ⟨ts, own1, S1, log1, g1, c1, g2, g3⟩ := toTs_ok ih cs arr.toList S own _ _ (by simpa using h2) hr (fun i c z hc hz => h3 i c z hc (by simpa using hz)) h
        replace g1 := (onesP_elim g1).2
        replace g1 := rd_elim g1
        obtain ⟨b2, hb2, g1⟩ := g1
        split at g1
        · rename_i cs2
          replace g1 := wr_elim g1
          obtain ⟨arr2, e2, k1, k2, k3⟩ := c1.rel.mem.blk k _ hb2
          rw [h1] at k1
          simp only [Option.some.injEq, Obj.cells.injEq] at k1
          obtain ⟨rfl, rfl, _⟩ := k1
          obtain ⟨S2, c2⟩ := frz_cells c1.rel hb2 (ts := ts) (by omega) (fun arr3 e3 hh i c v hc hv => by
            rw [h1] at hh
            simp only [Option.some.injEq, Obj.cells.injEq] at hh
            obtain ⟨rfl, _⟩ := hh
            exact g3 i c v hc (by simpa using hv))
          exact ⟨_, _, S2, _, g1, c1.trans c2, fin S2 _ ts (c1.trans c2) (by rw [look_upd hb2]; simp)⟩
        · exact g1.elim
      · exact h.elim
    | fn fn xs ys va vb hna hnb h1 h2 =>
      obtain ⟨ts, own1, S1, log1, g1, c1, g2, g3⟩ := toTs_ok ih xs va.toList S own _ _ (by simpa using hna) hr (fun i c z hc hz => h1 i c z hc (by simpa using hz)) h
      obtain ⟨ss, own2, S2, log2, g4, c2, g5, g6⟩ := toTs_ok ih ys vb.toList S1 own1 _ _ (by simpa using hnb) c1.rel (fun i c z hc hz => c1.v _ _ (h2 i c z hc (by simpa using hz))) g1
      refine ⟨_, own2, S2, log2, g4, c1.trans c2, .fn fn ts ss va vb (by omega) (by omega) (fun i c v hc hv => c2.t _ _ (g3 i c v hc (by simpa using hv))) fun i c v hc hv => g6 i c v hc (by simpa using hv)⟩
    | agg cs arr hn h1 =>
      obtain ⟨ts, own1, S1, log1, g1, c1, g2, g3⟩ := toTs_ok ih cs arr.toList S own _ _ (by simpa using hn) hr (fun i c z hc hz => h1 i c z hc (by simpa using hz)) h
      exact ⟨_, own1, S1, log1, g1, c1, .agg ts arr (by omega) fun i c v hc hv => g3 i c v hc (by simpa using hv)⟩
    | tup cs arr hn h1 =>
      obtain ⟨ts, own1, S1, log1, g1, c1, g2, g3⟩ := toTs_ok ih cs arr.toList S own _ _ (by simpa using hn) hr (fun i c z hc hz => h1 i c z hc (by simpa using hz)) h
      exact ⟨_, own1, S1, log1, g1, c1, .tup ts arr (by omega) fun i c v hc hv => g3 i c v hc (by simpa using hv)⟩
end
end Go.Nx
end
section
set_option linter.unusedVariables false
set_option linter.unusedSimpArgs false
namespace Go.Nx
open Go.RowKit

section
variable {P : Program} {Γ : Env} {B : Base} {S : Cells} {ρ : Infos} {tm : List V} {own : Own} {a : Act} {w : World}
variable {o : Oper} {K : V → Own → Log → Prop} {log : Log} {dr : Bool}

theorem run_store1 {b off : Nat} {arr : Array Value} {e : TypeId} {u : Value} (h : w.heap[b]? = some (.cells arr e (0, 0))) (hlt : off < arr.size) (hu : vone u = true) :
    ∃ w', (store ⟨b, off, none⟩ u).run P w = .ok () w' ∧ w'.heap[b]? = some (.cells (arr.setIfInBounds off u) e (0, 0)) ∧ Keep (fun x _ => x = b) w w' := by
  refine ⟨w.setCell ⟨b, off, none⟩ u, ?_, ?_, Keep.setCell w _ u fun _ => rfl⟩
  · rw [run_store P w _ u _ (vone_one hu), cell_row h]
    have : w.frozen? ⟨b, off, none⟩ = false := frozen_of_row w b off arr e h
    simp [hlt, this]
  · simp [World.setCell, Array.getElem?_modify, h]
theorem run_storeCells1 {b off : Nat} {e : TypeId} : ∀ (vs : List Value) (i : Nat) (w : World) (arr : Array Value), w.heap[b]? = some (.cells arr e (0, 0)) → off + i + vs.length ≤ arr.size → (∀ v ∈ vs, vone v = true) →
    ∃ w', (storeCells ⟨b, off, none⟩ vs i).run P w = .ok () w' ∧ w'.heap[b]? = some (.cells (putN arr.toList (off + i) vs).toArray e (0, 0)) ∧ Keep (fun x _ => x = b) w w' := by
  intro vs
  induction vs with
  | nil =>
    intro i w arr h hlen hv
    refine ⟨w, by simp [storeCells], ?_, .refl _ w⟩
    rw [h]
    have : putN arr.toList (off + i) [] = arr.toList := by cases arr.toList <;> cases (off + i) <;> rfl
    simp [this]
  | cons v vs ih =>
    intro i w arr h hlen hv
    simp at hlen
    obtain ⟨w1, h1, h2, h3⟩ := run_store1 (P := P) (off := off + i) (u := v) h (by omega) (hv v (by simp))
    obtain ⟨w2, h4, h5, h6⟩ := ih (i + 1) w1 _ h2 (by simp; omega) (fun x hx => hv x (by simp [hx]))
    refine ⟨w2, ?_, ?_, h3.comp h6 fun _ _ _ hc => hc⟩
    · have e1 : Addr.add ⟨b, off, none⟩ i = ⟨b, off + i, none⟩ := by
        by_cases z : i = 0
        · subst z; simp [Addr.add]
        · simp [Addr.add, z]
      simp [storeCells, e1, h1, h4]
    · rw [h5]
      congr 3
      apply List.ext_getElem?
      intro j
      have l1 : off + i + (v :: vs).length ≤ arr.toList.length := by simp; omega
      have l2 : off + (i + 1) + vs.length ≤ (arr.setIfInBounds (off + i) v).toList.length := by simp; omega
      rw [putN_get _ _ _ j l1, putN_get _ _ _ j l2]
      by_cases c1 : off + (i + 1) ≤ j ∧ j < off + (i + 1) + vs.length
      · rw [if_pos c1, if_pos (by simp; omega)]
        have : j - (off + i) = (j - (off + (i + 1))) + 1 := by omega
        rw [this]; simp
      · rw [if_neg c1]
        by_cases c2 : j = off + i
        · subst c2
          have l3 : off + i < arr.size := by omega
          rw [if_pos (by simp)]
          simp [l3]
        · rw [if_neg (by simp; omega)]
          simp [List.getElem?_set_ne (Ne.symm c2)]
theorem run_storeVar1 {t : TypeId} {i : TypeInfo} {b off : Nat} {e : TypeId} {arr : Array Value} {u : Value} (hi : P.info? t = some i) (h : w.heap[b]? = some (.cells arr e (0, 0))) (hs : u.cells.size = i.size)
    (hlen : off + i.size ≤ arr.size) (hv : ∀ v ∈ u.cells.toList, vone v = true) :
    ∃ w', (storeVar t ⟨b, off, none⟩ u).run P w = .ok () w' ∧ w'.heap[b]? = some (.cells (putN arr.toList off u.cells.toList).toArray e (0, 0)) ∧ Keep (fun x _ => x = b) w w' := by
  obtain ⟨w', h1, h2, h3⟩ := run_storeCells1 (P := P) (off := off) u.cells.toList 0 w arr h (by simp [hs]; omega) hv
  refine ⟨w', ?_, h2, h3⟩
  simp [storeVar, run_sizeOf hi, hs, h1]
theorem op_st_run {t : TypeId} {x y : Operand} {ad : Addr} {w' : World} (ho : o.op = .store t x y) (hx : a.eval x = .pointer (some ad)) (h : (storeVar t ad (a.eval y)).run P w = .ok () w') :
    (execOp a.eval o).run P w = .ok .skip w' := by
  simp [execOp, ho, hx, Instr.storeAt, Instr.sureAddr, h]

theorem turn_lst (hr : Rel Γ B S ρ ⟨tm, own⟩ a w) {k sz : Nat} {ts ts' : List T} (hl : look k own = some (.lst sz ts 0)) (hne : ts ≠ []) (hn : ts'.length = ts.length) (hsz : ∀ x ∈ ts', Flat sz x) {w' : World} {arr' : Array Value} {e : TypeId}
    (hk : Keep (fun x _ => x = (ρ k).blk) w w') (hh : w'.heap[(ρ k).blk]? = some (.cells arr' e (0, 0))) (hsize : ∀ arr e', w.heap[(ρ k).blk]? = some (.cells arr e' (0, 0)) → arr'.size = arr.size)
    (h : ∀ (i : Nat) (x : T) (j : Nat) (c : T), ts'[i]? = some x → x.cells[j]? = some c → ∃ v, arr'[i * sz + j]? = some v ∧ RelT S w c v) :
    Rel Γ B S ρ ⟨tm, upd k (.lst sz ts' 0) own⟩ a w' := by
  obtain ⟨C, arr, e', h1, h2, h3, h4, h5, h6⟩ := lst0_cells hr hl hne
  have hpos : 0 < ts.length := List.length_pos_iff.2 hne
  have hC : C ≠ 0 := by omega
  have hcl : claim (ρ k) (.lst sz ts 0) = fun b _ => b = (ρ k).blk := by
    funext b o
    apply propext
    exact ⟨fun h => h.1, fun h => ⟨h, _, _, _, h1, hC⟩⟩
  have hcl' : claim (ρ k) (.lst sz ts' 0) = fun b _ => b = (ρ k).blk := by
    funext b o
    apply propext
    exact ⟨fun h => h.1, fun h => ⟨h, _, _, _, h1, hC⟩⟩
  refine hr.turn hl (.inr ⟨ts', 0, rfl, hn⟩) (by rw [hcl]; exact hk) (fun _ _ h => h) (fun _ _ h => .inl h) (fun b o hc => ?_) ?_
  · rw [hcl'] at hc
    rw [hcl]
    exact ⟨hc, (hr.mem.cl k _ hl b o (by rw [hcl]; exact hc)).2⟩
  · refine ⟨hsz, _, C, by rw [h1, hn], by omega, .inr ⟨rfl, arr', e, hh, by rw [hsize arr e' h3]; exact h4, fun i x j c hx hc => ?_⟩⟩
    obtain ⟨v, g1, g2⟩ := h i x j c hx hc
    exact ⟨v, g1, g2.keep (fun _ _ h => h) hk (fun b o hb hs => (hr.mem.cl k _ hl b o (by rw [hcl]; exact hb)).2 hs) hr.mem.lt⟩

theorem relT_vones {y : T} {u : Value} (h : RelT S w y u) (hf : y.one = true ∨ ∃ cs, y = .agg cs) (h1 : ∀ c ∈ y.cells, c.one = true) : ∀ z ∈ u.cells.toList, vone z = true := by
  intro z hz
  obtain ⟨h3, h4⟩ := h.cells hf
  obtain ⟨i, hi⟩ := List.mem_iff_getElem?.1 hz
  have hlt : i < y.cells.length := by
    rw [← h3]
    rcases Nat.lt_or_ge i u.cells.size with h | h
    · exact h
    · rw [List.getElem?_eq_none (by simpa using h)] at hi; cases hi
  have e : y.cells[i]? = some y.cells[i] := by simp [hlt]
  exact ((h4 i _ z e (by simpa using hi)).one (h1 _ (List.mem_of_getElem? e))).1

theorem op_st (hr : Rel Γ B S ρ ⟨tm, own⟩ a w) {t : TypeId} {x y : Operand} {i : TypeInfo} {va vy : V} (hx : RelV S w ρ own va (a.eval x)) (hy : RelV S w ρ own vy (a.eval y))
    (hi : P.info? t = some i) (hi0 : i.size ≠ 0) (ho : o.op = .store t x y) {base : Nat} {x' y' : Opd} (h : run dr (prog base (.st i.size x' y') [va, vy]) own log K) : Did P Γ B o a w tm K := by
  simp only [prog] at h
  split at h
  · rename_i k off
    have e1 := ptr_of hx
    replace h := rd_elim h
    obtain ⟨b, hb, h⟩ := h
    split at h
    · rename_i cs
      obtain ⟨arr, e, h1, h2, h3⟩ := hr.mem.blk k _ hb
      replace h := cellsP_elim h
      obtain ⟨g1, g2, h⟩ := h
      replace h := lenP_elim h
      obtain ⟨g5, h⟩ := h
      replace h := putNP_elim h
      obtain ⟨g7, h⟩ := h
      replace h := wr_elim h
      obtain ⟨c1, c2⟩ := hy.cells g1
      have hlen : off + i.size ≤ arr.size := by
        rw [h2]
        rcases g7 with g7 | g7
        · rw [g7] at g5; simp at g5; omega
        · omega
      obtain ⟨w', r1, r2, r3⟩ := run_storeVar1 (P := P) (u := a.eval y) hi h1 (by rw [c1, g5]) hlen (hy.cells_one g1 g2)
      have hS : ∀ b o, (fun x _ => x = (ρ k).blk : Cells) b o → ¬ S b o := fun b o hbo hs => (hr.mem.cl k _ hb b o hbo).2 hs
      have hle : Ble (.cells cs) (.cells (putN cs off vy.cells)) := .inr (.inl ⟨_, rfl⟩)
      refine ⟨_, _, _, S, ρ, w', undef, h, hr.turn hb hle r3 (fun _ _ h => h) (fun _ _ h => .inl h) (fun b o hc => ⟨hc, hS b o hc⟩) ?_, rel_undef, .inr ⟨op_st_run ho e1 r1, rfl⟩⟩
      refine ⟨_, e, r2, by simp [putN_length _ _ _ (Or.inr (show off + (a.eval y).cells.toList.length ≤ arr.toList.length by simp; omega)), putN_length _ _ _ g7, h2], fun j c u hc hu => ?_⟩
      have l1 : off + vy.cells.length ≤ cs.length := by omega
      rw [putN_get _ _ _ j l1] at hc
      simp only [List.getElem?_toArray] at hu
      rw [putN_get _ _ _ j (by simp; omega)] at hu
      have mono : ∀ c u, RelV S w ρ own c u → RelV S w' ρ (upd k (.cells (putN cs off vy.cells)) own) c u := fun c u hcu =>
        RelV.mono (fun _ _ h => h) r3 hS hr.mem.lt (OwnLe.upd hb hle) (fun _ _ _ => rfl) hcu
      by_cases c4 : off ≤ j ∧ j < off + vy.cells.length
      · rw [if_pos c4] at hc
        rw [if_pos (by simp; omega)] at hu
        exact mono _ _ (c2 _ _ _ hc (by simpa using hu))
      · rw [if_neg c4] at hc
        rw [if_neg (by simp; omega)] at hu
        exact mono _ _ (h3 j c u hc (by simpa using hu))
    · rename_i sz ts m
      split at h
      · rename_i l
        replace h := req_elim h
        obtain ⟨⟨q1, q2, q3⟩, h⟩ := h
        replace h := wr_elim h
        obtain ⟨arr', e3, c1, c2⟩ := hy.t_of.agg_of
        have hne : ts ≠ [] := fun hn => by subst hn; simp at q2; omega
        obtain ⟨C, arr, e, h1, h2, h3, h4, h5, h6⟩ := lst0_cells hr hb hne
        have hlen : 0 + i.size ≤ arr.size := by omega
        obtain ⟨w', r1, r2, r3⟩ := run_storeVar1 (P := P) (u := a.eval y) hi h3 (by rw [e3]; show arr'.size = i.size; omega) hlen
          (relT_vones hy.t_of (.inr ⟨l, rfl⟩) q3)
        refine ⟨_, _, _, S, ρ, w', undef, h, turn_lst hr hb hne (ts' := l) (by omega) (fun x hx => flat_one (q3 x hx)) r3 r2 (fun arr2 e2 hh => ?_) (fun j x j' c hj hc => ?_), rel_undef, .inr ⟨op_st_run ho e1 r1, rfl⟩⟩
        · rw [h3] at hh
          simp only [Option.some.injEq, Obj.cells.injEq] at hh
          obtain ⟨rfl, _⟩ := hh
          simp [putN_length _ _ _ (Or.inr (show 0 + (a.eval y).cells.toList.length ≤ arr.toList.length by rw [e3]; simp [Value.cells]; omega))]
        · rw [cell_eq_of (q3 x (List.mem_of_getElem? hj))] at hc
          cases j' with
          | succ j' => simp at hc
          | zero =>
            simp at hc; subst hc
            have hlt : j < l.length := by
              rcases Nat.lt_or_ge j l.length with h | h
              · exact h
              · rw [List.getElem?_eq_none h] at hj; cases hj
            have hlt' : j < arr'.size := by omega
            have e4 : arr'[j]? = some arr'[j] := by simp [hlt']
            refine ⟨arr'[j], ?_, c2 j _ _ hj e4⟩
            simp only [List.getElem?_toArray, Nat.mul_one, Nat.add_zero]
            rw [putN_get _ _ _ j (by rw [e3]; simp [Value.cells]; omega), if_pos (by rw [e3]; simp [Value.cells]; omega), e3]
            simp [Value.cells, hlt']
      · exact h.elim
    · exact h.elim
  · rename_i k ie j
    replace h := toT_ok 8 _ _ _ _ _ _ _ _ _ _ _ _ _ _ hr hy h
    obtain ⟨y2, own1, S1, log1, h, c1, hy2⟩ := h
    have hr1 := c1.rel
    have hx1 := c1.v _ _ hx
    replace h := rd_elim h
    obtain ⟨b, hb, h⟩ := h
    split at h
    · rename_i sz ts m
      have e1 := eptr_of hx1 hb
      split at h
      · rename_i hbq
        rw [Nat.beq_eq] at hbq
        replace h := cellsTP_elim h
        obtain ⟨g1, g2, h⟩ := h
        replace h := lenP_elim h
        obtain ⟨g3, h⟩ := h
        replace h := req_elim h
        obtain ⟨g4, h⟩ := h
        replace h := wr_elim h
        have hne : ts ≠ [] := fun hn => by subst hn; simp at g4
        obtain ⟨C, arr, e, h1, h2, h3, h4, h5, h6⟩ := lst0_cells hr1 hb hne
        obtain ⟨k1, k2⟩ := hy2.cells g1
        have hmul : (ie + 1) * sz ≤ C * sz := Nat.mul_le_mul_right _ (by omega)
        rw [Nat.add_mul] at hmul
        obtain ⟨w', r1, r2, r3⟩ := run_storeVar1 (P := P) (off := ie * sz + 0) (u := a.eval y) hi h3 (by omega) (by omega) (relT_vones hy2 g1 g2)
        have l1 : ie * sz + 0 + (a.eval y).cells.toList.length ≤ arr.toList.length := by simp; omega
        refine ⟨_, _, _, S1, ρ, w', undef, h, turn_lst hr1 hb hne (ts' := ts.set ie y2) (by simp) (fun x hx => ?_) r3 r2 (fun arr2 e2 hh => ?_) (fun m x j' c hm hc => ?_), rel_undef, .inr ⟨op_st_run ho e1 r1, rfl⟩⟩
        · rcases List.mem_or_eq_of_mem_set hx with hx | rfl
          · exact h5 x hx
          · exact ⟨by omega, g2⟩
        · rw [h3] at hh
          simp only [Option.some.injEq, Obj.cells.injEq] at hh
          obtain ⟨rfl, _⟩ := hh
          rw [List.size_toArray, putN_length _ _ _ (Or.inr l1)]; simp
        · simp only [List.getElem?_toArray]
          rw [putN_get _ _ _ _ l1]
          by_cases em : ie = m
          · subst em
            rw [List.getElem?_set_self g4] at hm
            cases hm
            have hj' : j' < y2.cells.length := by
              rcases Nat.lt_or_ge j' y2.cells.length with h | h
              · exact h
              · rw [List.getElem?_eq_none h] at hc; cases hc
            have hlt : j' < (a.eval y).cells.size := by omega
            have e4 : (a.eval y).cells[j']? = some (a.eval y).cells[j'] := by simp [hlt]
            refine ⟨_, ?_, k2 j' c _ hc e4⟩
            rw [if_pos (by simp; omega)]
            rw [show ie * sz + j' - (ie * sz + 0) = j' by omega]
            simp
          · rw [List.getElem?_set_ne em] at hm
            have hz := (h5 x (List.mem_of_getElem? hm)).1
            have hj' : j' < sz := by
              rcases Nat.lt_or_ge j' sz with h | h
              · exact h
              · rw [List.getElem?_eq_none (by omega)] at hc; cases hc
            obtain ⟨u, hu, hr'⟩ := h6 m x j' c hm hc
            refine ⟨u, ?_, hr'⟩
            have : ¬ (ie * sz + 0 ≤ m * sz + j' ∧ m * sz + j' < ie * sz + 0 + (a.eval y).cells.toList.length) := by
              simp only [Array.length_toList]
              rcases Nat.lt_or_gt_of_ne em with h | h
              · have : (ie + 1) * sz ≤ m * sz := Nat.mul_le_mul_right _ h
                rw [Nat.add_mul] at this; omega
              · have : (m + 1) * sz ≤ ie * sz := Nat.mul_le_mul_right _ h
                rw [Nat.add_mul] at this; omega
            rw [if_neg this]
            simpa using hu
      · rename_i j m' j' bq hne0
        replace h := nth_elim h
        obtain ⟨h0, x2, hx2, h⟩ := h
        split at h
        · rename_i xs
          replace h := onesP_elim h
          obtain ⟨g0, h⟩ := h
          replace h := cellsTP_elim h
          obtain ⟨g1, g2, h⟩ := h
          replace h := lenP_elim h
          obtain ⟨g3, h⟩ := h
          replace h := putNP_elim h
          obtain ⟨g7, h⟩ := h
          replace h := req_elim h
          obtain ⟨g4, h⟩ := h
          replace h := wr_elim h
          have hx3 : ts[ie]? = some (.agg xs) := by simpa using hx2
          have hne : ts ≠ [] := fun hn => by subst hn; simp at g4
          obtain ⟨C, arr, e, h1, h2, h3, h4, h5, h6⟩ := lst0_cells hr1 hb hne
          obtain ⟨k1, k2⟩ := hy2.cells g1
          have hxs : xs.length = sz := (h5 _ (List.mem_of_getElem? hx3)).1
          have hmul : (ie + 1) * sz ≤ C * sz := Nat.mul_le_mul_right _ (by omega)
          rw [Nat.add_mul] at hmul
          have hjn : j + i.size ≤ sz := by
            rcases g7 with g7 | g7
            · rw [g7] at g3; simp at g3; omega
            · omega
          obtain ⟨w', r1, r2, r3⟩ := run_storeVar1 (P := P) (off := ie * sz + j) (u := a.eval y) hi h3 (by omega) (by omega) (relT_vones hy2 g1 g2)
          have l1 : ie * sz + j + (a.eval y).cells.toList.length ≤ arr.toList.length := by simp; omega
          have l2 : j + y2.cells.length ≤ xs.length := by omega
          refine ⟨_, _, _, S1, ρ, w', undef, h, turn_lst hr1 hb hne (ts' := ts.set ie (.agg (putN xs j y2.cells))) (by simp) (fun x hx => ?_) r3 r2 (fun arr2 e2 hh => ?_) (fun m x j' c hm hc => ?_), rel_undef, .inr ⟨op_st_run ho e1 r1, rfl⟩⟩
          · rcases List.mem_or_eq_of_mem_set hx with hx | rfl
            · exact h5 x hx
            · refine ⟨?_, fun c hc => ?_⟩
              · show (putN xs j y2.cells).length = sz
                rw [putN_length _ _ _ (.inr l2)]; exact hxs
              · obtain ⟨q, hq⟩ := List.mem_iff_getElem?.1 (show c ∈ putN xs j y2.cells from hc)
                rw [putN_get _ _ _ _ l2] at hq
                split at hq
                · exact g2 c (List.mem_of_getElem? hq)
                · exact g0 c (List.mem_of_getElem? hq)
          · rw [h3] at hh
            simp only [Option.some.injEq, Obj.cells.injEq] at hh
            obtain ⟨rfl, _⟩ := hh
            simp [putN_length _ _ _ (Or.inr l1)]
          · simp only [List.getElem?_toArray]
            rw [putN_get _ _ _ _ l1]
            by_cases em : ie = m
            · subst em
              rw [List.getElem?_set_self g4] at hm
              cases hm
              have hc' : (putN xs j y2.cells)[j']? = some c := hc
              rw [putN_get _ _ _ _ l2] at hc'
              by_cases hin : j ≤ j' ∧ j' < j + y2.cells.length
              · rw [if_pos hin] at hc'
                have hlt : j' - j < (a.eval y).cells.size := by omega
                have e4 : (a.eval y).cells[j' - j]? = some (a.eval y).cells[j' - j] := by simp [hlt]
                refine ⟨_, ?_, k2 (j' - j) c _ hc' e4⟩
                rw [if_pos (by simp; omega)]
                rw [show ie * sz + j' - (ie * sz + j) = j' - j by omega]
                simp
              · rw [if_neg hin] at hc'
                obtain ⟨u, hu, hr'⟩ := h6 ie (.agg xs) j' c hx3 hc'
                refine ⟨u, ?_, hr'⟩
                rw [if_neg (by simp; omega)]
                simpa using hu
            · rw [List.getElem?_set_ne em] at hm
              have hz := (h5 x (List.mem_of_getElem? hm)).1
              have hj' : j' < sz := by
                rcases Nat.lt_or_ge j' sz with h | h
                · exact h
                · rw [List.getElem?_eq_none (by omega)] at hc; cases hc
              obtain ⟨u, hu, hr'⟩ := h6 m x j' c hm hc
              refine ⟨u, ?_, hr'⟩
              have : ¬ (ie * sz + j ≤ m * sz + j' ∧ m * sz + j' < ie * sz + j + (a.eval y).cells.toList.length) := by
                simp only [Array.length_toList]
                rcases Nat.lt_or_gt_of_ne em with h | h
                · have : (ie + 1) * sz ≤ m * sz := Nat.mul_le_mul_right _ h
                  rw [Nat.add_mul] at this; omega
                · have : (m + 1) * sz ≤ ie * sz := Nat.mul_le_mul_right _ h
                  rw [Nat.add_mul] at this; omega
              rw [if_neg this]
              simpa using hu
        · exact h.elim
      · exact h.elim
    · exact h.elim
  · exact h.elim
end
end Go.Nx
end
section
set_option linter.unusedVariables false
set_option linter.unusedSimpArgs false
namespace Go.Nx
open Go.RowKit

section
variable {P : Program} {Γ : Env} {B : Base} {S : Cells} {ρ : Infos} {tm : List V} {own : Own} {a : Act} {w : World}
variable {o : Oper} {K : V → Own → Log → Prop} {log : Log} {dr : Bool}

theorem run_eqGuard_plain (op : BinOp) (t : TypeId) (x y : Operand) (u v : Value) (h1 : u ≠ .nilIface) (h2 : ∀ c, u ≠ .agg c) : (eqGuard op t x y u v).run P w = .ok () w := by
  unfold eqGuard
  cases op <;> simp <;> (cases u <;> first | rfl | exact absurd rfl h1 | exact absurd rfl (h2 _))

theorem run_binI {op : BinOp} {t : TypeId} {k j : IntKind} {x y : Int} {r : T} (hk : isShift op = true ∨ k = j) (h : binI op k x y = .yes r ∨ ∃ p d, binI op k x y = @Ans.req p d r ∧ p) :
    ∃ u, (binOp op t (.int k x) (.int j y)).run P w = .ok u w ∧ RelT S w r u := by
  have nk : ∀ op, isShift op = true ∨ k = j → isShift op = false → k = j := fun op h e => by
    rcases h with h | h
    · rw [e] at h; cases h
    · exact h
  have v (u : Value) (hu : RelT S w r u) (hrun : (binOp op t (.int k x) (.int j y)).run P w = .ok u w) : ∃ u, (binOp op t (.int k x) (.int j y)).run P w = .ok u w ∧ RelT S w r u := ⟨u, hrun, hu⟩
  cases op <;> simp only [binI] at h <;> rcases h with h | ⟨p, _, h, hp⟩ <;> cases h
  case add => obtain rfl := nk _ hk rfl; exact v _ (.int _ _) (by simp [binOp, Op.intArith])
  case sub => obtain rfl := nk _ hk rfl; exact v _ (.int _ _) (by simp [binOp, Op.intArith])
  case mul => obtain rfl := nk _ hk rfl; exact v _ (.int _ _) (by simp [binOp, Op.intArith])
  case quo => obtain rfl := nk _ hk rfl; exact v _ (.int _ _) (by simp [binOp, Op.intDiv, hp])
  case rem => obtain rfl := nk _ hk rfl; exact v _ (.int _ _) (by simp [binOp, Op.intDiv, hp])
  case and => obtain rfl := nk _ hk rfl; exact v _ (.int _ _) (by simp [binOp, Op.intBits, andI])
  case or => obtain rfl := nk _ hk rfl; exact v _ (.int _ _) (by simp [binOp, Op.intBits, orI])
  case xor => obtain rfl := nk _ hk rfl; exact v _ (.int _ _) (by simp [binOp, Op.intBits, xorI])
  case andNot => obtain rfl := nk _ hk rfl; exact v _ (.int _ _) (by simp [binOp, Op.intBits, andNotI])
  case shl =>
    have hp' : ¬ y < 0 := by omega
    exact v _ (.int _ _) (by simp [binOp, Op.shift, hp', shlI])
  case shr =>
    have hp' : ¬ y < 0 := by omega
    exact v _ (.int _ _) (by simp [binOp, Op.shift, hp', shrI])
  case eql => obtain rfl := nk _ hk rfl; exact v _ (.bool _) (by simp [binOp, Op.intCmp, eqI_def])
  case neq => obtain rfl := nk _ hk rfl; exact v _ (.bool _) (by simp [binOp, Op.intCmp, eqI_def, bne])
  case lss => obtain rfl := nk _ hk rfl; exact v _ (.bool _) (by simp [binOp, Op.intCmp, ltI_def])
  case leq => obtain rfl := nk _ hk rfl; exact v _ (.bool _) (by simp [binOp, Op.intCmp, leI_def])
  case gtr => obtain rfl := nk _ hk rfl; exact v _ (.bool _) (by simp [binOp, Op.intCmp, ltI_def])
  case geq => obtain rfl := nk _ hk rfl; exact v _ (.bool _) (by simp [binOp, Op.intCmp, leI_def])

theorem binA_elim {op : BinOp} {x y r : T} (h : binA op x y = .yes r ∨ ∃ p d, binA op x y = @Ans.req p d r ∧ p) :
    (∃ k a j b, x = .int k a ∧ y = .int j b ∧ (isShift op = true ∨ k = j) ∧ (binI op k a b = .yes r ∨ ∃ p d, binI op k a b = @Ans.req p d r ∧ p)) ∨
    (∃ s t, x = .str s ∧ y = .str t ∧ ((op = .eql ∧ r = .bool (eqS s t)) ∨ (op = .neq ∧ r = .bool (!eqS s t)) ∨ (op = .add ∧ s.size + t.size ≤ 9223372036854775807 ∧ r = .str (s ++ t)))) := by
  have no : ∀ {r : T}, ¬ (Ans.no = .yes r ∨ ∃ p d, Ans.no = @Ans.req p d r ∧ p) := by
    intro r h; rcases h with h | ⟨_, _, h, _⟩ <;> cases h
  unfold binA at h
  split at h
  · split at h
    · rename_i hs; exact .inl ⟨_, _, _, _, rfl, rfl, .inl hs, h⟩
    · split at h
      · rename_i hk; exact .inl ⟨_, _, _, _, rfl, rfl, .inr (kEq_eq hk), h⟩
      · exact absurd h no
  · refine .inr ⟨_, _, rfl, rfl, ?_⟩
    split at h
    · rcases h with h | ⟨_, _, h, _⟩ <;> cases h; exact .inl ⟨rfl, rfl⟩
    · rcases h with h | ⟨_, _, h, _⟩ <;> cases h; exact .inr (.inl ⟨rfl, rfl⟩)
    · rcases h with h | ⟨_, _, h, hp⟩ <;> cases h; exact .inr (.inr ⟨rfl, hp, rfl⟩)
    · exact absurd h no
  · exact absurd h no

theorem eqCs_split {k l : List Nat} : ∀ {xs ys : List T} {r : Bool}, eqCs (k ++ l) xs ys = some r → ∃ r1 r2, eqCs k (xs.take k.length) (ys.take k.length) = some r1 ∧ eqCs l (xs.drop k.length) (ys.drop k.length) = some r2 ∧ r = (r1 && r2) := by
  induction k with
  | nil => intro xs ys r h; exact ⟨true, r, by simp [eqCs], by simpa using h, by simp⟩
  | cons c k ih =>
    intro xs ys r h
    cases xs with
    | nil => cases ys <;> simp [eqCs] at h
    | cons x xs =>
      cases ys with
      | nil => simp [eqCs] at h
      | cons y ys =>
        simp only [List.cons_append, eqCs] at h
        cases e1 : eqC c x y with
        | none => simp [e1] at h
        | some b =>
          cases e2 : eqCs (k ++ l) xs ys with
          | none => simp [e1, e2] at h
          | some d =>
            simp [e1, e2] at h
            obtain ⟨r1, r2, h1, h2, h3⟩ := ih e2
            exact ⟨b && r1, r2, by simp [eqCs, e1, h1], by simpa using h2, by rw [← h, h3, Bool.and_assoc]⟩
theorem eqCs_len : ∀ {sh : List Nat} {xs ys : List T} {r : Bool}, eqCs sh xs ys = some r → xs.length = sh.length ∧ ys.length = sh.length := by
  intro sh
  induction sh with
  | nil => intro xs ys r h; cases xs <;> cases ys <;> simp [eqCs] at h <;> simp
  | cons c sh ih =>
    intro xs ys r h
    cases xs <;> cases ys <;> simp only [eqCs] at h <;> try (cases h; done)
    split at h
    · split at h
      · rename_i e; have := ih e; simp [this]
      · cases h
    · cases h
def CellsOf (S : Cells) (w : World) (d : TypeDesc) (xs : List T) (v : Value) : Prop :=
  if aggD d then RelT S w (.agg xs) v else ∃ x, xs = [x] ∧ RelT S w x v
theorem run_part {t : TypeId} {d : TypeDesc} {i : TypeInfo} {arr : Array Value} {xs : List T} {off : Nat} (hd : P.underlying t = some d) (hi : P.info? t = some i) (hs : aggD d = false → i.size = 1)
    (hlen : arr.size = xs.length) (h : ∀ (j : Nat) (c : T) (u : Value), xs[j]? = some c → arr[j]? = some u → RelT S w c u) (ho : off + i.size ≤ xs.length) :
    ∃ u, (part t arr off).run P w = .ok u w ∧ CellsOf S w d ((xs.drop off).take i.size) u := by
  cases e : aggD d with
  | true =>
    refine ⟨.agg (arr.extract off (off + i.size)), by simp [part, run_isAgg hd, e, run_sizeOf hi], ?_⟩
    unfold CellsOf
    rw [e, if_pos rfl]
    refine .agg _ _ (by simp; omega) fun j c u hc hu => ?_
    obtain ⟨p1, p2⟩ := take_get hc
    refine h _ _ _ p1 ?_
    rw [Array.getElem?_extract] at hu
    split at hu
    · exact hu
    · cases hu
  | false =>
    have h1 := hs e
    have hlt : off < arr.size := by omega
    have hlt' : off < xs.length := by omega
    have e6 : arr[off]? = some arr[off] := by simp [hlt]
    have e7 : xs[off]? = some xs[off] := by simp [hlt']
    refine ⟨arr[off], by simp [part, run_isAgg hd, e, e6], ?_⟩
    simp only [CellsOf, e, Bool.false_eq_true, if_false]
    refine ⟨xs[off], ?_, h _ _ _ e7 e6⟩
    rw [h1, List.drop_eq_getElem_cons hlt', List.take_succ_cons, List.take_zero]
theorem eqC_int {x y : T} {r : Bool} (h : eqC 1 x y = some r) : ∃ k a b, x = .int k a ∧ y = .int k b ∧ r = eqI a b := by
  unfold eqC at h
  split at h <;> first
    | (rename_i e; cases e; done)
    | skip
  · rename_i k a j b
    split at h
    · rename_i hk
      have := kEq_eq hk; subst this
      cases h
      exact ⟨_, _, _, rfl, rfl, rfl⟩
    · cases h
  · cases h
theorem eqC_bool {x y : T} {r : Bool} (h : eqC 0 x y = some r) : ∃ a b, x = .bool a ∧ y = .bool b ∧ r = (a == b) := by
  unfold eqC at h
  split at h <;> first
    | (rename_i e; cases e; done)
    | (cases h; done)
    | (cases h; exact ⟨_, _, rfl, rfl, eqB_def _ _⟩)
theorem eqC_str {x y : T} {r : Bool} (h : eqC 2 x y = some r) : ∃ a b, x = .str a ∧ y = .str b ∧ r = eqS a b := by
  unfold eqC at h
  split at h <;> first
    | (rename_i e; cases e; done)
    | (cases h; done)
    | (cases h; exact ⟨_, _, rfl, rfl, rfl⟩)
theorem run_flat (P : Program) (S : Cells) (w : World) : ∀ n,
    (∀ t sh dd, flatS P n t = some sh → P.underlying t = some dd → (aggD dd = false → sh.length = 1) ∧ ∀ d, n ≤ d → ∀ (xs ys : List T) (r : Bool) (u v : Value), eqCs sh xs ys = some r → CellsOf S w dd xs u → CellsOf S w dd ys v → (Op.equalIn d t u v).run P w = .ok r w) ∧
    (∀ acc fs sh, flatFs P n acc fs = some sh → ∀ d, n ≤ d → ∀ (xs ys : List T) (au av : Array Value) (r : Bool), xs.length = acc + sh.length → ys.length = acc + sh.length → RelT S w (.agg xs) (.agg au) → RelT S w (.agg ys) (.agg av) →
      eqCs sh (xs.drop acc) (ys.drop acc) = some r → (Op.eqFields d au av fs).run P w = .ok r w) := by
  intro n
  induction n with
  | zero => exact ⟨fun t sh dd h => by simp [flatS] at h, fun acc fs sh h => by simp [flatFs] at h⟩
  | succ n ih =>
    refine ⟨fun t sh dd h hdd => ?_, fun acc fs sh h d hd xs ys au av r hx hy hu hv he => ?_⟩
    · unfold flatS at h
      have one : ∀ {c : Nat} {x y : List T} {r : Bool}, eqCs [c] x y = some r → ∃ x0 y0, x = [x0] ∧ y = [y0] ∧ eqC c x0 y0 = some r := by
        intro c x y r h
        have hl := eqCs_len h
        obtain ⟨x0, rfl⟩ : ∃ x0, x = [x0] := by cases x with
          | nil => simp at hl
          | cons x0 x => cases x with
            | nil => exact ⟨x0, rfl⟩
            | cons => simp at hl
        obtain ⟨y0, rfl⟩ : ∃ x0, y = [x0] := by cases y with
          | nil => simp at hl
          | cons x0 x => cases x with
            | nil => exact ⟨x0, rfl⟩
            | cons => simp at hl
        refine ⟨x0, y0, rfl, rfl, ?_⟩
        cases e : eqC c x0 y0 <;> simp [eqCs, e] at h ⊢
        exact h
      split at h
      · rename_i ht
        rw [ht] at hdd; cases hdd
        cases h
        refine ⟨fun _ => rfl, fun d hd xs ys r u v he hu hv => ?_⟩
        obtain ⟨d, rfl⟩ : ∃ m, d = m + 1 := ⟨d - 1, by omega⟩
        obtain ⟨x0, y0, e8, e9, he1⟩ := one he
        subst e8 e9
        obtain ⟨_, e1, hu⟩ := hu; cases e1
        obtain ⟨_, e1, hv⟩ := hv; cases e1
        obtain ⟨p, q, rfl, rfl, rfl⟩ := eqC_bool he1
        rw [RelT.bool_of hu, RelT.bool_of hv]
        exact run_equalIn_bool' w d t _ _ ht
      · rename_i k ht
        rw [ht] at hdd; cases hdd
        cases h
        refine ⟨fun _ => rfl, fun d hd xs ys r u v he hu hv => ?_⟩
        obtain ⟨d, rfl⟩ : ∃ m, d = m + 1 := ⟨d - 1, by omega⟩
        obtain ⟨x0, y0, e8, e9, he1⟩ := one he
        subst e8 e9
        obtain ⟨_, e1, hu⟩ := hu; cases e1
        obtain ⟨_, e1, hv⟩ := hv; cases e1
        obtain ⟨k', p, q, rfl, rfl, rfl⟩ := eqC_int he1
        rw [RelT.int_of hu, RelT.int_of hv, run_equalIn_int w d t _ _ _ _ ht, eqI_def]
      · rename_i ht
        rw [ht] at hdd; cases hdd
        cases h
        refine ⟨fun _ => rfl, fun d hd xs ys r u v he hu hv => ?_⟩
        obtain ⟨d, rfl⟩ : ∃ m, d = m + 1 := ⟨d - 1, by omega⟩
        obtain ⟨x0, y0, e8, e9, he1⟩ := one he
        subst e8 e9
        obtain ⟨_, e1, hu⟩ := hu; cases e1
        obtain ⟨_, e1, hv⟩ := hv; cases e1
        obtain ⟨p, q, rfl, rfl, rfl⟩ := eqC_str he1
        rw [RelT.str_of hu, RelT.str_of hv, run_equalIn_string w d t _ _ ht, eqS_def]
      · rename_i fs ht
        rw [ht] at hdd; cases hdd
        split at h
        · cases h
        · rename_i hst
          refine ⟨fun h => by simp [aggD] at h, fun d hd xs ys r u v he hu hv => ?_⟩
          obtain ⟨d, rfl⟩ : ∃ m, d = m + 1 := ⟨d - 1, by omega⟩
          have hu' : RelT S w (.agg xs) u := hu
          have hv' : RelT S w (.agg ys) v := hv
          obtain ⟨au, rfl, _, _⟩ := RelT.agg_of hu'
          obtain ⟨av, rfl, _, _⟩ := RelT.agg_of hv'
          have hl := eqCs_len he
          have hfo : P.fieldsOf t = fs := by simp [Program.fieldsOf, ht]
          rw [run_equalIn_struct w d t au av (by rw [hfo]; exact ht) (by simpa using hst), hfo]
          exact ih.2 0 _ _ h d (by omega) xs ys au av r (by omega) (by omega) hu' hv' (by simpa using he)
      · cases h
    · unfold flatFs at h
      split at h
      · cases h
        have hl := eqCs_len he
        have e1 : xs.drop acc = [] := List.length_eq_zero_iff.1 hl.1
        have e2 : ys.drop acc = [] := List.length_eq_zero_iff.1 hl.2
        rw [e1, e2] at he
        simp [eqCs] at he; subst he
        simp [Op.eqFields]
      · rename_i f fs
        split at h
        · cases h
        · rename_i hname
          split at h
          · rename_i hoff
            split at h
            · rename_i k i hk hi
              split at h
              · rename_i hsz
                cases e : flatFs P n (acc + k.length) fs with
                | none => simp [e] at h
                | some rest =>
                  simp [e] at h; subst h
                  simp only [List.length_append] at hx hy
                  obtain ⟨r1, r2, g1, g2, g3⟩ := eqCs_split he
                  obtain ⟨dd, hdd⟩ : ∃ dd, P.underlying f.type = some dd := by
                    cases n with
                    | zero => simp [flatS] at hk
                    | succ n =>
                      unfold flatS at hk
                      cases e : P.underlying f.type with
                      | none => simp [e] at hk
                      | some dd => exact ⟨dd, rfl⟩
                  obtain ⟨q1, q2⟩ := ih.1 _ _ dd hk hdd
                  cases hu with
                  | agg _ _ hnu hu =>
                  cases hv with
                  | agg _ _ hnv hv =>
                  obtain ⟨a1, p1, p2⟩ := run_part (P := P) (arr := au) (off := f.offset) hdd hi (fun e => by rw [hsz]; exact q1 e) hnu hu (by omega)
                  obtain ⟨b1, p3, p4⟩ := run_part (P := P) (arr := av) (off := f.offset) hdd hi (fun e => by rw [hsz]; exact q1 e) hnv hv (by omega)
                  rw [hsz, hoff] at p2 p4
                  have q3 := q2 d (by omega) _ _ _ _ _ g1 p2 p4
                  rw [List.drop_drop, List.drop_drop] at g2
                  have q4 := ih.2 _ _ _ e d (by omega) xs ys au av r2 (by omega) (by omega) (.agg _ _ hnu hu) (.agg _ _ hnv hv) g2
                  simp only [Op.eqFields, ne_eq, hname, not_false_eq_true, if_true, Sem.run_bind, p1, Result.andThen_ok, p3, q3]
                  cases r1
                  · simp [g3]
                  · simp [q4, g3]
              · cases h
            · cases h
          · cases h

theorem putN_nil {α : Type} (cs : List α) (o : Nat) : putN cs o [] = cs := by cases cs <;> cases o <;> rfl
theorem putN_cons {α : Type} (cs : List α) (o : Nat) (v : α) (vs : List α) (h : o < cs.length) : putN (cs.set o v) (o + 1) vs = putN cs o (v :: vs) := by
  induction cs generalizing o with
  | nil => simp at h
  | cons x r ih =>
    cases o with
    | zero =>
      cases vs with
      | nil => simp [putN_nil, putN]
      | cons => simp [putN]
    | succ o =>
      simp only [List.set_cons_succ]
      cases vs with
      | nil => have := ih o (by simpa using h); rw [putN_nil] at this ⊢; rw [this]; rfl
      | cons => simp only [putN]; rw [ih o (by simpa using h)]
theorem fill_foldl (off : Nat) : ∀ (l : List Value) (s : Nat) (cells : Array Value), off + s + l.length ≤ cells.size →
    ((l.zipIdx s).foldl (fun cs p => cs.setIfInBounds (off + p.2) p.1) cells).toList = putN cells.toList (off + s) l := by
  intro l
  induction l with
  | nil =>
    intro s cells h
    simp
    cases cells.toList <;> cases (off + s) <;> rfl
  | cons v l ih =>
    intro s cells h
    simp at h
    simp only [List.zipIdx_cons, List.foldl_cons]
    rw [ih (s + 1) (cells.setIfInBounds (off + s) v) (by simp; omega)]
    rw [← Nat.add_assoc]
    simp only [Array.toList_setIfInBounds]
    exact putN_cons _ _ _ _ (by simp; omega)
theorem placeOf_spec {t : TypeId} {f : Nat → Option (Nat × Nat)} (h : placeOf P t = some f) : ∃ i z, P.info? t = some i ∧ i.zero = some z ∧ ∀ parts, P.built t parts = Instr.fill f z.cells parts := by
  unfold placeOf at h
  split at h
  · rename_i it len e h1 h2
    split at h
    · rename_i z ie h3 h4
      cases h
      exact ⟨it, z, h1, h3, fun parts => by simp [Program.built, h1, h2, h3, h4]⟩
    · cases h
  · rename_i it fs h1 h2
    split at h
    · rename_i z pl h3 h4
      cases h
      exact ⟨it, z, h1, h3, fun parts => by simp [Program.built, h1, h2, h3, h4]⟩
    · cases h
  · cases h

theorem fill_elems (size : Nat) : ∀ (vs : List Value) (i : Nat) (cells : Array Value), (∀ v ∈ vs, v.cells.size = size) → (i + vs.length) * size ≤ cells.size →
    ∃ cells', Instr.fill (fun i => some (i * size, size)) cells ((List.range' i vs.length).zip vs) = some cells' ∧ cells'.size = cells.size ∧ (∀ j, j < i * size → cells'[j]? = cells[j]?) ∧
      ∀ (n : Nat) (v : Value), vs[n]? = some v → ∀ (j : Nat) (c : Value), v.cells[j]? = some c → cells'[(i + n) * size + j]? = some c := by
  intro vs
  induction vs with
  | nil => intro i cells _ _; exact ⟨cells, by simp [Instr.fill], rfl, fun _ _ => rfl, fun n v h => by simp at h⟩
  | cons v vs ih =>
    intro i cells hv hlen
    have h0 := hv v (by simp)
    have e1 : (i + (v :: vs).length) * size = i * size + size + vs.length * size := by
      simp only [List.length_cons, Nat.add_mul]; omega
    have e2 : (i + 1 + vs.length) * size = i * size + size + vs.length * size := by simp only [Nat.add_mul]; omega
    have e3 : (i + 1) * size = i * size + size := by simp only [Nat.add_mul]; omega
    rw [e1] at hlen
    have hf : (v.cells.zipIdx.foldl (fun cs (c, j) => cs.setIfInBounds (i * size + j) c) cells).toList = putN cells.toList (i * size) v.cells.toList := by
      have := fill_foldl (i * size) v.cells.toList 0 cells (by simp [h0]; omega)
      rw [Nat.add_zero] at this
      rw [← this, ← Array.foldl_toList, Array.toList_zipIdx]
    have hl : i * size + v.cells.toList.length ≤ cells.toList.length := by simp [h0]; omega
    have hsz : (v.cells.zipIdx.foldl (fun cs (c, j) => cs.setIfInBounds (i * size + j) c) cells).size = cells.size := by
      rw [← Array.length_toList, hf, putN_length _ _ _ (.inr hl), Array.length_toList]
    obtain ⟨cells', g1, g2, g3, g4⟩ := ih (i + 1) (v.cells.zipIdx.foldl (fun cs (c, j) => cs.setIfInBounds (i * size + j) c) cells) (fun v hv' => hv v (by simp [hv'])) (by rw [e2, hsz]; exact hlen)
    refine ⟨cells', ?_, by rw [g2, hsz], fun j hj => ?_, fun n u hn j c hc => ?_⟩
    · simp only [List.length_cons, List.range'_succ, List.zip_cons_cons, Instr.fill]
      rw [if_neg (by simp [h0]; omega)]
      exact g1
    · rw [g3 j (by rw [e3]; omega), ← Array.getElem?_toList, hf, putN_get _ _ _ j hl, if_neg (by omega)]
      simp
    · cases n with
      | zero =>
        simp at hn; subst hn
        have hj : j < v.cells.size := by
          rcases Nat.lt_or_ge j v.cells.size with h | h
          · exact h
          · rw [Array.getElem?_eq_none h] at hc; cases hc
        rw [Nat.add_zero, g3 _ (by rw [e3]; omega), ← Array.getElem?_toList, hf, putN_get _ _ _ _ hl, if_pos (by simp; omega)]
        simpa using hc
      | succ n =>
        have := g4 n u (by simpa using hn) j c hc
        rw [show i + (n + 1) = i + 1 + n by omega]
        exact this

theorem bounds_run (isS : Bool) {len cap : Nat} {lo hi : Option Operand} {l h : Int} (hl : (lo = none ∧ l = (0 : Nat)) ∨ ∃ y k, lo = some y ∧ a.eval y = .int k l)
    (hh : (hi = none ∧ h = len) ∨ ∃ y k, hi = some y ∧ a.eval y = .int k h) (h0 : 0 ≤ l) (h1 : l ≤ h) (h2 : h ≤ cap) :
    (Instr.sliceBounds isS len cap (lo.map a.eval) (hi.map a.eval) none).run P w = .ok (l.toNat, h.toNat, cap) w := by
  have eh : (h.toNat : Int) = h := Int.toNat_of_nonneg (by omega)
  have g1 : 0 ≤ h := by omega
  rcases hl with ⟨e1, e2⟩ | ⟨y, k, e1, e2⟩ <;> rcases hh with ⟨e3, e4⟩ | ⟨z, j, e3, e4⟩
  · subst e1 e2 e3 e4; simp [Instr.sliceBounds]
  · subst e1 e2 e3; simp [Instr.sliceBounds, e4, Instr.sliceBound, asIntOf, g1, h2]
  · subst e1 e3 e4
    simp [Instr.sliceBounds, e2, Instr.sliceBound, asIntOf, h0, h1]
  · subst e1 e3
    simp [Instr.sliceBounds, e2, e4, Instr.sliceBound, asIntOf, h0, h1, h2, g1, eh]


theorem ansP_elim {ans : Ans} {k : Nat} (hg : ∀ p d sz xs, ans ≠ @Ans.gl p d sz xs) (h : run dr (ansP ans k) own log K) : ∃ x, (ans = .yes x ∨ ∃ p d, ans = @Ans.req p d x ∧ p) ∧ K (.t x) own log := by
  cases ans with
  | no => exact h.elim
  | yes x => exact ⟨x, .inl rfl, h⟩
  | req p x => obtain ⟨h1, h2⟩ := req_elim h; exact ⟨x, .inr ⟨p, _, rfl, h1⟩, h2⟩
  | gl p sz xs => exact (hg p _ sz xs rfl).elim
  | pk p x => exact h.elim
theorem binI_ngl {op : BinOp} {k : IntKind} {a b : Int} : ∀ p d sz xs, binI op k a b ≠ @Ans.gl p d sz xs := by intro p d sz xs; cases op <;> simp [binI]
theorem binA_ngl {op : BinOp} {x y : T} : ∀ p d sz xs, binA op x y ≠ @Ans.gl p d sz xs := by
  intro p d sz xs h
  unfold binA at h
  split at h
  · split at h
    · exact binI_ngl _ _ _ _ h
    · split at h
      · exact binI_ngl _ _ _ _ h
      · cases h
  · split at h <;> cases h
  · cases h
theorem binbA_ngl {op : BinOp} {x y : T} : ∀ p d sz xs, binbA op x y ≠ @Ans.gl p d sz xs := by
  intro p d sz xs h
  unfold binbA at h
  split at h
  · split at h <;> cases h
  · cases h
theorem unA_ngl {op : UnOp} {x : T} : ∀ p d sz xs, unA op x ≠ @Ans.gl p d sz xs := by
  intro p d sz xs h
  unfold unA at h
  split at h <;> cases h

theorem op_bin (hr : Rel Γ B S ρ ⟨tm, own⟩ a w) {x y : Operand} {op : BinOp} {t yt : TypeId} {vx vy : V} (hx : RelV S w ρ own vx (a.eval x)) (hy : RelV S w ρ own vy (a.eval y)) (ho : o.op = .binOp op t x y yt) {base : Nat} {x' y' : Opd}
    (h : run dr (prog base (.bin op x' y') [vx, vy]) own log K) : Did P Γ B o a w tm K := by
  simp only [prog] at h
  split at h
  · obtain ⟨r, h1, h2⟩ := ansP_elim binA_ngl h
    have hrel := hx.t_of
    have hrel2 := hy.t_of
    rcases binA_elim h1 with ⟨k, x0, j, y0, e1, e2, hk, hb⟩ | ⟨s, z, e1, e2, hc⟩
    · subst e1 e2
      have e1 := RelT.int_of hrel
      have e2 := RelT.int_of hrel2
      obtain ⟨z, g1, g2⟩ := run_binI (S := S) (P := P) (w := w) (t := t) hk hb
      refine did_val h2 hr (.t _ _ g2) ?_
      simp [execOp, ho, e1, e2, run_eqGuard_plain, g1]
    · subst e1 e2
      have e1 := RelT.str_of hrel
      have e2 := RelT.str_of hrel2
      rcases hc with ⟨c1, c2⟩ | ⟨c1, c2⟩ | ⟨c1, c3, c2⟩ <;> subst c1 c2
      · exact did_val h2 hr (u := .bool _) (.t _ _ (.bool _)) (by simp [execOp, ho, e1, e2, run_eqGuard_plain, binOp, Op.stringOp, eqS_def])
      · exact did_val h2 hr (u := .bool _) (.t _ _ (.bool _)) (by simp [execOp, ho, e1, e2, run_eqGuard_plain, binOp, Op.stringOp, eqS_def])
      · refine did_val h2 hr (u := .string _) (.t _ _ (.str _)) ?_
        have hp' : ¬ (((s.size + z.size : Nat) : Int) > IntKind.i64.max) := by
          have : IntKind.i64.max = 9223372036854775807 := rfl
          rw [this]; omega
        simp only [execOp, ho, e1, e2, Sem.run_bind, run_eqGuard_plain, binOp, Op.stringOp, ne_eq, reduceCtorEq, not_false_eq_true, implies_true, Result.andThen_ok]
        rw [if_neg hp']
        simp
  · exact h.elim
theorem op_binb (hr : Rel Γ B S ρ ⟨tm, own⟩ a w) {x y : Operand} {op : BinOp} {t yt : TypeId} {vx vy : V} (hx : RelV S w ρ own vx (a.eval x)) (hy : RelV S w ρ own vy (a.eval y)) (ht : P.underlying t = some .bool) (ho : o.op = .binOp op t x y yt) {base : Nat} {x' y' : Opd}
    (h : run dr (prog base (.binb op x' y') [vx, vy]) own log K) : Did P Γ B o a w tm K := by
  simp only [prog] at h
  split at h
  · obtain ⟨r, h1, h2⟩ := ansP_elim binbA_ngl h
    have hrel := hx.t_of
    have hrel2 := hy.t_of
    unfold binbA at h1
    split at h1
    · have e1 := RelT.bool_of hrel
      have e2 := RelT.bool_of hrel2
      split at h1
      · rcases h1 with h1 | ⟨_, _, h1, _⟩ <;> cases h1
        exact did_val h2 hr (u := .bool _) (.t _ _ (.bool _)) (by simp [execOp, ho, e1, e2, run_eqGuard_plain, run_eql_bool, ht, eqB_def])
      · rcases h1 with h1 | ⟨_, _, h1, _⟩ <;> cases h1
        exact did_val h2 hr (u := .bool _) (.t _ _ (.bool _)) (by simp [execOp, ho, e1, e2, run_eqGuard_plain, run_neq_bool, ht, eqB_def])
      · rcases h1 with h1 | ⟨_, _, h1, _⟩ <;> cases h1
    · rcases h1 with h1 | ⟨_, _, h1, _⟩ <;> cases h1
  · exact h.elim
theorem op_eqa (hr : Rel Γ B S ρ ⟨tm, own⟩ a w) {x y : Operand} {op : BinOp} {neg : Bool} {sh : List Nat} {t yt : TypeId} {d : TypeDesc} {vx vy : V} (hx : RelV S w ρ own vx (a.eval x)) (hy : RelV S w ρ own vy (a.eval y))
    (ht : P.underlying t = some d) (ha : aggD d = true) (hg : P.eqGuardType P.depth t = false) (hs : flatS P 1000 t = some sh) (hop : op = if neg then .neq else .eql)
    (ho : o.op = .binOp op t x y yt) {base : Nat} {x' y' : Opd} (h : run dr (prog base (.eqa neg sh x' y') [vx, vy]) own log K) : Did P Γ B o a w tm K := by
  simp only [prog] at h
  split at h
  · rename_i xs ys
    split at h
    · rename_i r hr1
      have h1 : RelT S w (.agg xs) (a.eval x) := hx.t_of
      have h2 : RelT S w (.agg ys) (a.eval y) := hy.t_of
      obtain ⟨au, e1, _, _⟩ := RelT.agg_of h1
      obtain ⟨av, e2, _, _⟩ := RelT.agg_of h2
      have hc : ∀ (l : List T) (v : Value), RelT S w (.agg l) v → CellsOf S w d l v := fun l v h => by unfold CellsOf; rw [ha, if_pos rfl]; exact h
      have run := ((run_flat P S w 1000).1 t sh d hs ht).2 10000 (by omega) xs ys r _ _ hr1 (hc _ _ h1) (hc _ _ h2)
      rw [e1, e2] at run
      refine did_val h hr (u := .bool _) (.t _ _ (.bool _)) ?_
      cases neg
      · subst hop
        simp [execOp, ho, e1, e2, run_eqGuard_agg, hg, run_eql_struct, run]
      · subst hop
        simp [execOp, ho, e1, e2, run_eqGuard_agg, hg, run_neq_struct, run]
    · exact h.elim
  · exact h.elim
theorem op_un (hr : Rel Γ B S ρ ⟨tm, own⟩ a w) {x : Operand} {op : UnOp} {t : TypeId} {v : V} (hx : RelV S w ρ own v (a.eval x)) (ho : o.op = .unOp op t x) {base : Nat} {x' : Opd} (h : run dr (prog base (.un op x') [v]) own log K) : Did P Γ B o a w tm K := by
  simp only [prog] at h
  split at h
  · obtain ⟨r, h1, h2⟩ := ansP_elim unA_ngl h
    have hrel := hx.t_of
    unfold unA at h1
    split at h1 <;> simp at h1
    · subst h1
      have e := RelT.bool_of hrel
      exact did_val h2 hr (u := .bool (!_)) (.t _ _ (.bool _)) (by simp [execOp, ho, e, Op.unary])
    · subst h1
      have e := RelT.int_of hrel
      exact did_val h2 hr (u := .int _ _) (.t _ _ (.int _ _)) (by simp [execOp, ho, e, Op.unary, Op.intArith])
    · subst h1
      have e := RelT.int_of hrel
      exact did_val h2 hr (u := .int _ _) (.t _ _ (.int _ _)) (by simp [execOp, ho, e, Op.unary, Op.intBits, xorI])
  · exact h.elim
theorem op_conv (hr : Rel Γ B S ρ ⟨tm, own⟩ a w) {x : Operand} {s d : TypeId} {k j : IntKind} {v : V} (hx : RelV S w ρ own v (a.eval x))
    (h1 : P.underlying s = some (.int j)) (h2 : P.underlying d = some (.int k)) (ho : o.op = .convert s d x) {base : Nat} {x' : Opd} (h : run dr (prog base (.conv k x') [v]) own log K) : Did P Γ B o a w tm K := by
  simp only [prog] at h
  split at h
  · have e := RelT.int_of hx.t_of
    exact did_val h hr (u := .int _ _) (.t _ _ (.int _ _)) (by simp [execOp, ho, e, convert, underlying, h1, h2, Conv.intToInt])
  · exact h.elim
theorem op_convs (hr : Rel Γ B S ρ ⟨tm, own⟩ a w) {x : Operand} {s d : TypeId} {v : V} (hx : RelV S w ρ own v (a.eval x))
    (h1 : P.underlying s = some .string) (h2 : P.underlying d = some .string) (ho : o.op = .convert s d x) {base : Nat} {x' : Opd} (h : run dr (prog base (.cvs x') [v]) own log K) : Did P Γ B o a w tm K := by
  simp only [prog] at h
  split at h
  · have e := RelT.str_of hx.t_of
    exact did_val h hr (u := .string _) (.t _ _ (.str _)) (by simp [execOp, ho, e, convert, underlying, h1, h2])
  · exact h.elim
theorem arr_get {α β : Type} {l : List α} {arr : Array β} (h : arr.size = l.length) {i : Nat} {x : α} (hx : l[i]? = some x) : ∃ hlt : i < arr.size, arr[i]? = some arr[i] := by
  have hlt : i < arr.size := by
    rw [h]
    rcases Nat.lt_or_ge i l.length with h' | h'
    · exact h'
    · rw [List.getElem?_eq_none h'] at hx; cases hx
  exact ⟨hlt, by simp [hlt]⟩
theorem op_ext (hr : Rel Γ B S ρ ⟨tm, own⟩ a w) {x : Operand} {i : Nat} {v : V} (hx : RelV S w ρ own v (a.eval x)) (ho : o.op = .extract x i) {base : Nat} {x' : Opd} (h : run dr (prog base (.ext x' i) [v]) own log K) : Did P Γ B o a w tm K := by
  simp only [prog] at h
  split at h
  · rename_i l
    obtain ⟨y, h1, h2⟩ := getP_elim h
    have hrel := hx.t_of
    generalize hux : a.eval x = ux at hrel
    cases hrel with
    | tup _ arr hn' hh =>
      obtain ⟨hlt, e6⟩ := arr_get hn' h1
      exact did_val h2 hr (.t _ _ (hh _ _ _ h1 e6)) (by simp [execOp, ho, hux, Instr.extract, e6])
  · rename_i l
    obtain ⟨y, h1, h2⟩ := getP_elim h
    generalize hux : a.eval x = ux at hx
    cases hx with
    | tup _ arr hn' hh =>
      obtain ⟨hlt, e6⟩ := arr_get hn' h1
      exact did_val h2 hr (hh _ _ _ h1 e6) (by simp [execOp, ho, hux, Instr.extract, e6])
  · exact h.elim
theorem op_nilc (hr : Rel Γ B S ρ ⟨tm, own⟩ a w) {x : Operand} {v : V} (hx : RelV S w ρ own v (a.eval x)) (ho : o.op = .nilCheck x) {base : Nat} {x' : Opd} (h : run dr (prog base (.nilc x') [v]) own log K) : Did P Γ B o a w tm K := by
  simp only [prog] at h
  have fin : ∀ u, a.eval x = u → (∀ u', u = .pointer u' → u' ≠ none) → u ≠ .nilIface → u ≠ .nilFunc → (∀ n p q, u ≠ .func (.method n) p q) → RelV S w ρ own v u → K v own log → Did P Γ B o a w tm K := by
    intro u hu h1 h2 h3 h4 hv hK
    refine did_val hK hr hv ?_
    simp only [execOp, ho, hu]
    cases u with
    | pointer p =>
      cases p with
      | none => exact absurd rfl (h1 none rfl)
      | some p => simp
    | func f p q =>
      cases f with
      | method n => exact absurd rfl (h4 n p q)
      | _ => simp
    | nilIface => exact absurd rfl h2
    | nilFunc => exact absurd rfl h3
    | _ => simp
  have hx0 := hx
  generalize hu : a.eval x = u at hx
  split at h
  · have e := ptr_of hx; subst e; exact fin _ hu (fun u' h => by cases h; simp) (by simp) (by simp) (by simp) hx h
  · cases hx with
    | eptr _ _ _ b hb ad ha => exact fin _ hu (fun u' h => by cases h; simp) (by simp) (by simp) (by simp) (.eptr _ _ _ b hb ad ha) h
  · have hT := hx.t_of
    cases hT with
    | ref cs b o' uu h1 h2 => exact fin _ hu (fun u' h => by cases h; simp) (by simp) (by simp) (by simp) hx h
  · have hT := hx.t_of
    cases hT with
    | fn => exact fin _ hu (fun u' h => by cases h) (by simp) (by simp) (by simp) hx h
  · cases hx with
    | fn _ _ _ va vb q1 q2 q3 q4 => exact fin _ hu (fun u' h => by cases h) (by simp) (by simp) (by simp) (.fn _ _ _ va vb q1 q2 q3 q4) h
  · exact h.elim
theorem add_addr {b off f : Nat} : Addr.add ⟨b, off, none⟩ f = ⟨b, off + f, none⟩ := by
  by_cases z : f = 0
  · subst z; simp [Addr.add]
  · simp [Addr.add, z]
theorem ref_drop {cs : List T} {b o n : Nat} (h : RelT S w (.ref cs) (.pointer (some ⟨b, o, none⟩))) : RelT S w (.ref (cs.drop n)) (.pointer (some ⟨b, o + n, none⟩)) := by
  cases h with
  | ref _ _ _ u ha hh =>
    refine .ref _ _ _ (fun i => u (n + i)) (fun i hi => ?_) fun i c hc => ?_
    · have := ha (n + i) (by simp at hi; omega)
      rw [Nat.add_assoc]; exact this
    · rw [List.getElem?_drop] at hc; exact hh _ _ hc
theorem ref_of {cs : List T} {u : Value} (h : RelT S w (.ref cs) u) : ∃ b o, u = .pointer (some ⟨b, o, none⟩) := by cases h; exact ⟨_, _, rfl⟩
theorem op_fa (hr : Rel Γ B S ρ ⟨tm, own⟩ a w) {x : Operand} {s : TypeId} {f : Nat} {fs : Array Field} {fl : Field} {i : TypeInfo} {v : V} (hx : RelV S w ρ own v (a.eval x))
    (h1 : P.underlying s = some (.struct fs)) (h2 : fs[f]? = some fl) (h3 : P.info? fl.type = some i) (h4 : i.size ≠ 0)
    (ho : o.op = .fieldAddr s x f) {base : Nat} {x' : Opd} (h : run dr (prog base (.fa fl.offset x') [v]) own log K) : Did P Γ B o a w tm K := by
  simp only [prog] at h
  have run : ∀ ad : Addr, a.eval x = .pointer (some ad) → (execOp a.eval o).run P w = .ok (.value (.pointer (some (ad.add fl.offset)))) w := by
    intro ad e
    simp [execOp, ho, e, Instr.fieldAt, underlying, h1, h2, Instr.sureAddr, fieldPlace, run_sizeOf h3, h4]
  split at h
  · rename_i k off
    have e := ptr_of hx
    have r := run _ e
    rw [add_addr] at r
    generalize a.eval x = u at hx
    cases hx with
    | ptr _ _ b hb => exact did_val h hr (.ptr k _ b hb) r
  · rename_i k ie j
    generalize hu : a.eval x = u at hx
    cases hx with
    | eptr _ _ _ b hb ad ha =>
      have r := run _ hu
      refine did_val h hr (.eptr k ie _ b hb _ fun sz ts m e => ?_) r
      rw [ha sz ts m e, add_addr, Nat.add_assoc]; rfl
  · rename_i cs
    obtain ⟨b, o', e⟩ := ref_of hx.t_of
    have r := run _ e
    rw [add_addr] at r
    have hT := hx.t_of
    rw [e] at hT
    exact did_val h hr (.t _ _ (ref_drop hT)) r
  · exact h.elim
theorem op_fld (hr : Rel Γ B S ρ ⟨tm, own⟩ a w) {x : Operand} {s : TypeId} {f : Nat} {fs : Array Field} {fl : Field} {n : Option Nat} {v : V} (hx : RelV S w ρ own v (a.eval x))
    (h1 : P.underlying s = some (.struct fs)) (h2 : fs[f]? = some fl) (h3 : cellsN P fl.type = some n)
    (ho : o.op = .field s x f) {base : Nat} {x' : Opd} (h : run dr (prog base (.fld fl.offset n x') [v]) own log K) : Did P Γ B o a w tm K := by
  simp only [prog] at h
  obtain ⟨d, i, g1, g2, g3⟩ := cellsN_spec h3
  have key : ∀ (arr : Array Value), a.eval x = .agg arr → (n = none → ∀ u, arr[fl.offset]? = some u → (execOp a.eval o).run P w = .ok (.value u) w) ∧
      (∀ m, n = some m → (execOp a.eval o).run P w = .ok (.value (.agg (arr.extract fl.offset (fl.offset + m)))) w) := fun arr e => by
    refine ⟨fun hn u hu => ?_, fun m hm => ?_⟩
    · rcases g3 with ⟨_, g3⟩ | ⟨g3, _⟩
      · simp [execOp, ho, e, Instr.field, underlying, h1, h2, asAgg, part, run_isAgg g1, g3, hu]
      · rw [hn] at g3; cases g3
    · rcases g3 with ⟨g3, _⟩ | ⟨g3, g4⟩
      · rw [hm] at g3; cases g3
      · rw [hm] at g3; cases g3
        simp [execOp, ho, e, Instr.field, underlying, h1, h2, asAgg, part, run_isAgg g1, g4, run_sizeOf g2]
  split at h
  · rename_i cs
    obtain ⟨arr, e, c1, c2⟩ := RelT.agg_of hx.t_of
    obtain ⟨k1, k2⟩ := key arr e
    rcases rdTP_elim h with ⟨e4, y, hy, hK⟩ | ⟨m, e4, hm, hK⟩
    · obtain ⟨hlt, e6⟩ := arr_get c1 hy
      exact did_val hK hr (.t _ _ (c2 _ _ _ hy e6)) (k1 e4 _ e6)
    · refine did_val hK hr (u := .agg (arr.extract fl.offset (fl.offset + m))) (.t _ _ (.agg _ _ (by simp [c1]; rcases hm with hm | hm <;> omega) fun j c u hc hu => ?_)) (k2 m e4)
      obtain ⟨p1, p2⟩ := take_get hc
      refine c2 _ _ _ p1 ?_
      rw [Array.getElem?_extract] at hu
      split at hu
      · exact hu
      · cases hu
  · rename_i cs
    obtain ⟨arr, e, c1, c2⟩ : ∃ arr, a.eval x = .agg arr ∧ arr.size = cs.length ∧ ∀ (i : Nat) (c : V) (u : Value), cs[i]? = some c → arr[i]? = some u → RelV S w ρ own c u := by
      generalize a.eval x = u at hx
      cases hx with
      | agg _ arr hn h => exact ⟨arr, rfl, hn, h⟩
    obtain ⟨k1, k2⟩ := key arr e
    rcases rdP_elim h with ⟨e4, y, hy, hK⟩ | ⟨m, e4, hm, hK⟩
    · obtain ⟨hlt, e6⟩ := arr_get c1 hy
      exact did_val hK hr (c2 _ _ _ hy e6) (k1 e4 _ e6)
    · refine did_val hK hr (u := .agg (arr.extract fl.offset (fl.offset + m))) (rel_aggV (by simp [c1]; rcases hm with hm | hm <;> omega) fun j c u hc hu => ?_) (k2 m e4)
      obtain ⟨p1, p2⟩ := take_get hc
      refine c2 _ _ _ p1 ?_
      rw [Array.getElem?_extract] at hu
      split at hu
      · exact hu
      · cases hu
  · exact h.elim
end
end Go.Nx
end
