/-
  WHAT A VALUE OF THE MACHINE MEANS IN A WORLD; WHAT STAYS WHEN THE WORLD MOVES.
-/
import Derived.Test.YtpmpkcjcjccboaaDoorXb
import Derived.Below
set_option linter.unusedVariables false
namespace Go.Nx
open Go.RowKit

abbrev Cells := Nat → Nat → Prop

/-- an element of so many cells -/
def Flat (sz : Nat) (x : T) : Prop := x.cells.length = sz ∧ ∀ c ∈ x.cells, c.one = true
/-- A pure value as it lies in a world; what it reaches lies in S. -/
inductive RelT (S : Cells) (w : World) : T → Value → Prop
  | bool (b : Bool) : RelT S w (.bool b) (.bool b)
  | int (k : IntKind) (n : Int) : RelT S w (.int k n) (.int k n)
  | str (s : ByteArray) : RelT S w (.str s) (.string s)
  | list (sz : Nat) (xs : List T) (a : Option Addr) (cap : Nat) (u : Nat → Nat → Value) (hcap : xs.length ≤ cap)
      (ha : xs ≠ [] → ∃ b o, a = some ⟨b, o, none⟩ ∧ ∀ i j, i < xs.length → j < sz → S b (o + i * sz + j) ∧ w.cell? ⟨b, o + i * sz + j, none⟩ = some (u i j))
      (hsz : ∀ x ∈ xs, Flat sz x)
      (hr : ∀ (i : Nat) (x : T), xs[i]? = some x → ∀ (j : Nat) (c : T), x.cells[j]? = some c → RelT S w c (u i j)) : RelT S w (.list sz xs) (.slice a xs.length cap)
  | nils : RelT S w .nils (.slice none 0 0)
  | agg (cs : List T) (arr : Array Value) (hn : arr.size = cs.length) (h : ∀ (i : Nat) (c : T) (v : Value), cs[i]? = some c → arr[i]? = some v → RelT S w c v) : RelT S w (.agg cs) (.agg arr)
  | tup (cs : List T) (arr : Array Value) (hn : arr.size = cs.length) (h : ∀ (i : Nat) (c : T) (v : Value), cs[i]? = some c → arr[i]? = some v → RelT S w c v) : RelT S w (.tup cs) (.tuple arr)
  | fn (f : Fn) (xs ys : List T) (a b : Array Value) (hn : a.size = xs.length) (hm : b.size = ys.length) (h : ∀ (i : Nat) (c : T) (v : Value), xs[i]? = some c → a[i]? = some v → RelT S w c v)
      (h' : ∀ (i : Nat) (c : T) (v : Value), ys[i]? = some c → b[i]? = some v → RelT S w c v) : RelT S w (.fn f xs ys) (.func f a b)
  | nilfn : RelT S w .nilfn .nilFunc
  | ifc (t : TypeId) (x : T) (v : Value) (h : RelT S w x v) : RelT S w (.ifc t x) (.iface t v)
  | nilif : RelT S w .nilif .nilIface
  | nilptr : RelT S w .nilptr (.pointer none)
  | nilmap : RelT S w .nilmap (.map none)
  | ref (cs : List T) (b o : Nat) (u : Nat → Value) (ha : ∀ i, i < cs.length → S b (o + i) ∧ w.cell? ⟨b, o + i, none⟩ = some (u i))
      (h : ∀ (i : Nat) (c : T), cs[i]? = some c → RelT S w c (u i)) : RelT S w (.ref cs) (.pointer (some ⟨b, o, none⟩))

theorem RelT.mono {S S' : Cells} {w w' : World} (hS : ∀ b o, S b o → S' b o) (hw : ∀ b o, S b o → w'.cell? ⟨b, o, none⟩ = w.cell? ⟨b, o, none⟩) {x : T} {v : Value}
    (h : RelT S w x v) : RelT S' w' x v := by
  induction h with
  | bool b => exact .bool b
  | int k n => exact .int k n
  | str s => exact .str s
  | list sz xs a cap u hcap ha hsz hr ih =>
    refine .list sz xs a cap u hcap (fun hne => ?_) hsz ih
    obtain ⟨b, o, e, h⟩ := ha hne
    refine ⟨b, o, e, fun i j hi hj => ?_⟩
    obtain ⟨h1, h2⟩ := h i j hi hj
    exact ⟨hS _ _ h1, by rw [hw _ _ h1]; exact h2⟩
  | nils => exact .nils
  | agg cs arr hn h ih => exact .agg cs arr hn ih
  | tup cs arr hn h ih => exact .tup cs arr hn ih
  | fn f xs ys a b hn hm h h' ih ih' => exact .fn f xs ys a b hn hm ih ih'
  | nilfn => exact .nilfn
  | ifc t x v h ih => exact .ifc t x v ih
  | nilif => exact .nilif
  | nilptr => exact .nilptr
  | nilmap => exact .nilmap
  | ref cs b o u ha h ih => exact .ref cs b o u (fun i hi => ⟨hS _ _ (ha i hi).1, by rw [hw _ _ (ha i hi).1]; exact (ha i hi).2⟩) ih

def vone : Value → Bool
  | .agg _ | .tuple _ => false
  | _ => true
theorem RelT.one {S : Cells} {w : World} {x : T} {v : Value} (h : RelT S w x v) (hx : x.one = true) : vone v = true ∧ v.cells = #[v] := by
  cases h <;> first | exact ⟨rfl, rfl⟩ | (simp [T.one] at hx)
theorem RelT.cells {S : Cells} {w : World} {x : T} {v : Value} (h : RelT S w x v) (hx : x.one = true ∨ ∃ cs, x = .agg cs) :
    v.cells.size = x.cells.length ∧ ∀ (i : Nat) (c : T) (u : Value), x.cells[i]? = some c → v.cells[i]? = some u → RelT S w c u := by
  rcases hx with hx | ⟨cs, rfl⟩
  · have hv := (h.one hx).2
    have hc : x.cells = [x] := by cases x <;> first | rfl | (simp [T.one] at hx)
    rw [hv, hc]
    refine ⟨rfl, fun i c u h1 h2 => ?_⟩
    cases i with
    | zero => simp at h1 h2; subst h1; subst h2; exact h
    | succ i => simp at h1
  · cases h with
    | agg cs arr hn h => exact ⟨hn, h⟩
theorem RelT.agg_of {S : Cells} {w : World} {cs : List T} {v : Value} (h : RelT S w (.agg cs) v) : ∃ arr, v = .agg arr ∧ arr.size = cs.length ∧ ∀ (i : Nat) (c : T) (u : Value), cs[i]? = some c → arr[i]? = some u → RelT S w c u := by
  cases h with
  | agg cs arr hn h => exact ⟨arr, rfl, hn, h⟩
theorem RelT.bool_of {S : Cells} {w : World} {b : Bool} {v : Value} (h : RelT S w (.bool b) v) : v = .bool b := by cases h; rfl
theorem RelT.int_of {S : Cells} {w : World} {k : IntKind} {n : Int} {v : Value} (h : RelT S w (.int k n) v) : v = .int k n := by cases h; rfl
theorem RelT.str_of {S : Cells} {w : World} {s : ByteArray} {v : Value} (h : RelT S w (.str s) v) : v = .string s := by cases h; rfl

structure Info where
  blk : Nat
  rv : Value
abbrev Infos := Nat → Info

/-- what the block of a key claims for itself -/
def claim (i : Info) : Blk → Cells
  | .cells _ => fun b _ => b = i.blk
  | .map _ _ => fun b _ => b = i.blk
  | .lst _ _ 0 => fun b _ => b = i.blk ∧ ∃ a n c, i.rv = .slice a n c ∧ c ≠ 0
  | .lst sz _ 1 => fun b j => ∃ o sp n cap, i.rv = .slice (some ⟨b, o, sp⟩) n cap ∧ o + n * sz ≤ j ∧ j < o + cap * sz
  | _ => fun _ _ => False
def Claims (ρ : Infos) (own : Own) : Cells := fun b o => ∃ k blk, look k own = some blk ∧ claim (ρ k) blk b o

/-- a slice of an own list -/
def SlOk (rv : Value) (b : Blk) (off : Nat) (len : Option Nat) (v : Value) : Prop :=
  ∃ a n c, v = .slice a n c ∧ n ≤ c ∧ match b with
    | .lst sz ts _ => off ≤ ts.length ∧ (len = none → n = ts.length - off) ∧ (∀ l, len = some l → n = l ∧ off + l ≤ ts.length) ∧
        ∃ A C, rv = .slice A ts.length C ∧ (len = none → c = C - off) ∧ c ≤ C - off ∧ (0 < c → ∃ b o, A = some ⟨b, o, none⟩ ∧ a = some ⟨b, o + off * sz, none⟩)
    | _ => True

inductive RelV (S : Cells) (w : World) (ρ : Infos) (own : Own) : V → Value → Prop
  | t (x : T) (v : Value) (h : RelT S w x v) : RelV S w ρ own (.t x) v
  | dead (v : Value) : RelV S w ρ own .dead v
  | ptr (k off : Nat) (b : Blk) (h : look k own = some b) : RelV S w ρ own (.ptr k off) (.pointer (some ⟨(ρ k).blk, off, none⟩))
  | eptr (k i j : Nat) (b : Blk) (h : look k own = some b) (ad : Addr) (ha : ∀ sz ts m, b = .lst sz ts m → ad = ⟨(ρ k).blk, i * sz + j, none⟩) : RelV S w ρ own (.eptr k i j) (.pointer (some ad))
  | sl (k off : Nat) (len : Option Nat) (b : Blk) (h : look k own = some b) (v : Value) (hv : SlOk (ρ k).rv b off len v) : RelV S w ρ own (.sl k off len) v
  | cl (sz : Nat) (xs : List T) (a : Option Addr) (h : RelT S w (.list sz xs) (.slice a xs.length xs.length)) : RelV S w ρ own (.cl sz xs) (.slice a xs.length xs.length)
  | ce (a : Addr) : RelV S w ρ own .ce (.slice (some a) 0 0)
  | mp (k : Nat) (b : Blk) (h : look k own = some b) : RelV S w ρ own (.mp k) (.map (some (ρ k).blk))
  | fn (f : Fn) (xs ys : List V) (a b : Array Value) (hn : a.size = xs.length) (hm : b.size = ys.length) (h : ∀ (i : Nat) (c : V) (v : Value), xs[i]? = some c → a[i]? = some v → RelV S w ρ own c v)
      (h' : ∀ (i : Nat) (c : V) (v : Value), ys[i]? = some c → b[i]? = some v → RelV S w ρ own c v) : RelV S w ρ own (.fn f xs ys) (.func f a b)
  | agg (cs : List V) (arr : Array Value) (hn : arr.size = cs.length) (h : ∀ (i : Nat) (c : V) (v : Value), cs[i]? = some c → arr[i]? = some v → RelV S w ρ own c v) : RelV S w ρ own (.agg cs) (.agg arr)
  | tup (cs : List V) (arr : Array Value) (hn : arr.size = cs.length) (h : ∀ (i : Nat) (c : V) (v : Value), cs[i]? = some c → arr[i]? = some v → RelV S w ρ own c v) : RelV S w ρ own (.tup cs) (.tuple arr)
theorem RelV.t_of {S : Cells} {w : World} {ρ : Infos} {own : Own} {x : T} {v : Value} (h : RelV S w ρ own (.t x) v) : RelT S w x v := by cases h with | t _ _ h => exact h

def RelB (S : Cells) (w : World) (ρ : Infos) (own : Own) (k : Nat) : Blk → Prop
  | .cells cs => ∃ arr e, w.heap[(ρ k).blk]? = some (.cells arr e (0, 0)) ∧ arr.size = cs.length ∧ ∀ (i : Nat) (c : V) (v : Value), cs[i]? = some c → arr[i]? = some v → RelV S w ρ own c v
  | .frz cs => ∀ (i : Nat) (c : T), cs[i]? = some c → S (ρ k).blk i ∧ ∃ u, w.cell? ⟨(ρ k).blk, i, none⟩ = some u ∧ RelT S w c u
  | .lst sz ts 0 => (∀ x ∈ ts, Flat sz x) ∧ ∃ A C, (ρ k).rv = .slice A ts.length C ∧ ts.length ≤ C ∧
      (C = 0 ∨ (A = some ⟨(ρ k).blk, 0, none⟩ ∧ ∃ arr e, w.heap[(ρ k).blk]? = some (.cells arr e (0, 0)) ∧ C * sz ≤ arr.size ∧
        ∀ (i : Nat) (x : T) (j : Nat) (c : T), ts[i]? = some x → x.cells[j]? = some c → ∃ v, arr[i * sz + j]? = some v ∧ RelT S w c v))
  | .lst sz ts 1 => RelT S w (.list sz ts) (ρ k).rv ∧ (∀ b o sp n cap, (ρ k).rv = .slice (some ⟨b, o, sp⟩) n cap → (cap = n ∨ sp = none ∧ ∃ arr e, w.heap[b]? = some (.cells arr e (0, 0)) ∧ o + cap * sz ≤ arr.size)) ∧
      (∀ n cap, (ρ k).rv = .slice none n cap → cap = 0)
  | .lst sz ts _ => RelT S w (.list sz ts) (ρ k).rv
  | .map nr es => (nr = true → miB es = true) ∧ ∃ arr clock, w.heap[(ρ k).blk]? = some (.map arr clock) ∧ arr.size = es.length ∧ ∀ (i : Nat) (e : T × V) (m : MapEntry), es[i]? = some e → arr[i]? = some m → RelT S w e.1 m.key ∧ RelV S w ρ own e.2 m.val
  | .gone => True

/-! ### a world that is as it was, but for cells in C -/
def KeepB (C : Cells) (b : Nat) (o o' : Option Obj) : Prop :=
  o' = o ∨ (∃ c c' e f, o = some (.cells c e f) ∧ o' = some (.cells c' e f) ∧ c'.size = c.size ∧ ∀ j : Nat, ¬ C b j → c'[j]? = c[j]?) ∨
  (C b 0 ∧ ∃ es n es' n', o = some (.map es n) ∧ o' = some (.map es' n'))
structure Keep (C : Cells) (w w' : World) : Prop where
  os : w'.os = w.os
  tape : w'.tape = w.tape
  output : w'.output = w.output
  size : w.heap.size ≤ w'.heap.size
  blk : ∀ b, b < w.heap.size → KeepB C b w.heap[b]? w'.heap[b]?
theorem KeepB.trans {C : Cells} {b : Nat} {x y z : Option Obj} (h : KeepB C b x y) (k : KeepB C b y z) : KeepB C b x z := by
  rcases h with rfl | ⟨c, c', e, f, rfl, rfl, hs, hj⟩ | ⟨hc, es, n, es', n', rfl, rfl⟩
  · exact k
  · rcases k with rfl | ⟨d, d', e2, f2, hd, rfl, hs2, hj2⟩ | ⟨hc, es, n, es', n', h1, h2⟩
    · exact .inr (.inl ⟨c, c', e, f, rfl, rfl, hs, hj⟩)
    · simp only [Option.some.injEq, Obj.cells.injEq] at hd
      obtain ⟨rfl, rfl, rfl⟩ := hd
      exact .inr (.inl ⟨c, d', e, f, rfl, rfl, hs2.trans hs, fun j hc => (hj2 j hc).trans (hj j hc)⟩)
    · simp at h1
  · rcases k with rfl | ⟨d, d', e2, f2, hd, rfl, hs2, hj2⟩ | ⟨hc', es2, n2, es2', n2', h1, rfl⟩
    · exact .inr (.inr ⟨hc, es, n, es', n', rfl, rfl⟩)
    · simp at hd
    · exact .inr (.inr ⟨hc, es, n, es2', n2', rfl, rfl⟩)
theorem KeepB.mono {C C' : Cells} {b : Nat} {x y : Option Obj} (h : KeepB C b x y) (hc : ∀ o, C b o → C' b o) : KeepB C' b x y := by
  rcases h with h | ⟨c, c', e, f, h1, h2, hs, hj⟩ | ⟨h0, h1⟩
  · exact .inl h
  · exact .inr (.inl ⟨c, c', e, f, h1, h2, hs, fun j hj' => hj j fun h => hj' (hc j h)⟩)
  · exact .inr (.inr ⟨hc _ h0, h1⟩)
theorem Keep.refl (C : Cells) (w : World) : Keep C w w := ⟨rfl, rfl, rfl, Nat.le_refl _, fun _ _ => .inl rfl⟩
theorem Keep.mono {C C' : Cells} {w w' : World} (h : Keep C w w') (hc : ∀ b o, b < w.heap.size → C b o → C' b o) : Keep C' w w' :=
  ⟨h.os, h.tape, h.output, h.size, fun b hb => (h.blk b hb).mono fun o => hc b o hb⟩
theorem Keep.comp {C C' : Cells} {a b c : World} (h : Keep C a b) (k : Keep C' b c) (hc : ∀ x o, x < a.heap.size → C' x o → C x o) : Keep C a c :=
  ⟨k.os.trans h.os, k.tape.trans h.tape, k.output.trans h.output, Nat.le_trans h.size k.size, fun i hi =>
    (h.blk i hi).trans ((k.blk i (Nat.lt_of_lt_of_le hi h.size)).mono fun o => hc i o hi)⟩
theorem Keep.trans {C : Cells} {a b c : World} (h : Keep C a b) (k : Keep C b c) : Keep C a c := h.comp k fun _ _ _ h => h
theorem cell?_eq (w : World) (b o : Nat) : w.cell? ⟨b, o, none⟩ = match w.heap[b]? with
    | some (.cells c _ _) => c[o]?
    | _ => none := by
  simp only [World.cell?]
  split <;> simp_all
theorem cell_row {w : World} {b : Nat} {arr : Array Value} {e : TypeId} {fr : Nat × Nat} (h : w.heap[b]? = some (.cells arr e fr)) (j : Nat) : w.cell? ⟨b, j, none⟩ = arr[j]? := by
  rw [cell?_eq, h]
theorem Keep.cell {C : Cells} {w w' : World} (h : Keep C w w') {b o : Nat} (hc : ¬ C b o) (hb : b < w.heap.size) : w'.cell? ⟨b, o, none⟩ = w.cell? ⟨b, o, none⟩ := by
  rw [cell?_eq, cell?_eq]
  rcases h.blk b hb with e | ⟨c, c', e, f, h1, h2, h3, h4⟩ | ⟨h0, es, n, es', n', h1, h2⟩
  · rw [e]
  · rw [h1, h2]; exact h4 o hc
  · rw [h1, h2]
theorem lt_of_heap {w : World} {b : Nat} {o : Obj} (h : w.heap[b]? = some o) : b < w.heap.size := by
  rcases Nat.lt_or_ge b w.heap.size with h' | h'
  · exact h'
  · rw [Array.getElem?_eq_none h'] at h; cases h
/-- a row of cells that nobody may turn -/
theorem Keep.row {C : Cells} {w w' : World} (h : Keep C w w') {b : Nat} {arr : Array Value} {t : TypeId} {f : Nat × Nat} (hh : w.heap[b]? = some (.cells arr t f)) :
    ∃ arr', w'.heap[b]? = some (.cells arr' t f) ∧ arr'.size = arr.size ∧ ∀ j, ¬ C b j → arr'[j]? = arr[j]? := by
  rcases h.blk b (lt_of_heap hh) with e | ⟨c, c', t', f', h1, h2, h3, h4⟩ | ⟨h0, es, n, es', n', h1, h2⟩
  · exact ⟨arr, by rw [e]; exact hh, rfl, fun _ _ => rfl⟩
  · rw [h1] at hh
    simp only [Option.some.injEq, Obj.cells.injEq] at hh
    obtain ⟨rfl, rfl, rfl⟩ := hh
    exact ⟨c', h2, h3, h4⟩
  · rw [h1] at hh; simp at hh
theorem Keep.row_same {C : Cells} {w w' : World} (h : Keep C w w') {b : Nat} {arr : Array Value} {t : TypeId} {f : Nat × Nat} (hh : w.heap[b]? = some (.cells arr t f)) (hn : ∀ o, ¬ C b o) :
    w'.heap[b]? = some (.cells arr t f) := by
  obtain ⟨arr', h1, h2, h3⟩ := h.row hh
  have : arr' = arr := Array.ext_getElem? fun j => h3 j (hn j)
  rw [h1, this]
theorem Keep.map_same {C : Cells} {w w' : World} (h : Keep C w w') {b : Nat} {es : Array MapEntry} {n : Nat} (hh : w.heap[b]? = some (.map es n)) (hn : ∀ o, ¬ C b o) :
    w'.heap[b]? = some (.map es n) := by
  rcases h.blk b (lt_of_heap hh) with e | ⟨c, c', t', f', h1, h2, h3, h4⟩ | ⟨h0, _⟩
  · rw [e]; exact hh
  · rw [h1] at hh; simp at hh
  · exact (hn 0 h0).elim
theorem Keep.below {w w' : World} (h : Keep (fun _ _ => False) w w') : Below w.heap.size w w' :=
  ⟨h.os, h.tape, h.output, h.size, fun b hb => by
    rcases h.blk b hb with e | ⟨c, c', e, f, h1, h2, h3, h4⟩ | ⟨h0, _⟩
    · exact e
    · have : c' = c := Array.ext_getElem? fun j => h4 j (by simp)
      rw [h1, h2, this]
    · exact h0.elim⟩
theorem Keep.of_below {w w' : World} {C : Cells} (h : Below w.heap.size w w') : Keep C w w' :=
  ⟨h.os, h.tape, h.output, h.size, fun b hb => .inl (h.block b hb)⟩
theorem Keep.alloc (C : Cells) (w : World) (o : Obj) : Keep C w { w with heap := w.heap.push o } :=
  ⟨rfl, rfl, rfl, by simp, fun b hb => .inl (by simp [Array.getElem?_push, Nat.ne_of_lt hb])⟩
theorem Keep.drawn (C : Cells) (w : World) (d : Nat) : Keep C w { w with drawn := d } :=
  ⟨rfl, rfl, rfl, Nat.le_refl _, fun _ _ => .inl rfl⟩
theorem Keep.setCell {C : Cells} (w : World) (a : Addr) (v : Value) (hc : a.block < w.heap.size → C a.block a.off) : Keep C w (w.setCell a v) := by
  refine ⟨rfl, rfl, rfl, by simp [World.setCell], fun b hb => ?_⟩
  simp only [World.setCell, Array.getElem?_modify]
  by_cases e : a.block = b
  · subst e
    simp only [if_true]
    cases h : w.heap[a.block]? with
    | none => simp [KeepB]
    | some o =>
      cases o <;> try (exact .inl rfl)
      rename_i c e f
      refine .inr (.inl ⟨c, _, e, f, rfl, rfl, ?_, ?_⟩)
      · split <;> simp
      · intro j hj
        split
        · rfl
        · rw [Array.getElem?_setIfInBounds_ne]
          intro he
          exact hj (he ▸ hc hb)
  · rw [if_neg e]; exact .inl rfl

/-! ### what own blocks may become -/
def Ble : Blk → Blk → Prop
  | .lst sz ts _, b => b = .gone ∨ ∃ ts' m', b = .lst sz ts' m' ∧ ts'.length = ts.length
  | .gone, b => b = .gone
  | .cells _, b => b = .gone ∨ (∃ cs, b = .cells cs) ∨ ∃ cs, b = .frz cs
  | .frz cs, b => b = .gone ∨ b = .frz cs
  | .map _ _, b => b = .gone ∨ ∃ nr es, b = .map nr es
theorem Ble.refl (b : Blk) : Ble b b := by
  cases b with
  | cells cs => exact .inr (.inl ⟨cs, rfl⟩)
  | frz cs => exact .inr rfl
  | lst sz ts m => exact .inr ⟨ts, m, rfl, rfl⟩
  | map nr es => exact .inr ⟨nr, es, rfl⟩
  | gone => rfl
theorem Ble.gone (b : Blk) : Ble b .gone := by cases b <;> first | exact .inl rfl | rfl
theorem Ble.trans {a b c : Blk} (h : Ble a b) (k : Ble b c) : Ble a c := by
  cases a with
  | cells cs =>
    rcases h with rfl | ⟨cs', rfl⟩ | ⟨cs', rfl⟩
    · have : c = .gone := k
      exact .inl this
    · exact k
    · rcases k with rfl | rfl
      · exact .inl rfl
      · exact .inr (.inr ⟨_, rfl⟩)
  | frz cs =>
    rcases h with rfl | rfl
    · have : c = .gone := k
      exact .inl this
    · exact k
  | lst sz ts m =>
    rcases h with rfl | ⟨ts', m', rfl, h1⟩
    · have : c = .gone := k
      exact .inl this
    · rcases k with rfl | ⟨ts2, m2, rfl, h2⟩
      · exact .inl rfl
      · exact .inr ⟨ts2, m2, rfl, h2.trans h1⟩
  | map nr es =>
    rcases h with rfl | ⟨nr', es', rfl⟩
    · have : c = .gone := k
      exact .inl this
    · exact k
  | gone =>
    have e : b = .gone := h
    subst e; exact k
def OwnLe (own own' : Own) : Prop := ∀ k b, look k own = some b → ∃ b', look k own' = some b' ∧ Ble b b'
theorem OwnLe.refl (own : Own) : OwnLe own own := fun k b h => ⟨b, h, .refl b⟩
theorem OwnLe.trans {a b c : Own} (h : OwnLe a b) (k : OwnLe b c) : OwnLe a c := fun j x hj => by
  obtain ⟨y, h1, h2⟩ := h j x hj
  obtain ⟨z, h3, h4⟩ := k j y h1
  exact ⟨z, h3, h2.trans h4⟩
theorem OwnLe.cons {own : Own} {k : Nat} (b : Blk) (h : look k own = none) : OwnLe own ((k, b) :: own) := fun j c hj => by
  refine ⟨c, ?_, .refl c⟩
  simp only [look]
  rw [if_neg]
  · exact hj
  · intro e; subst e; rw [h] at hj; cases hj
theorem OwnLe.upd {own : Own} {k : Nat} {b b' : Blk} (h : look k own = some b) (hb : Ble b b') : OwnLe own (Nx.upd k b' own) := fun j c hj => by
  rw [look_upd h]
  by_cases e : j = k
  · subst e
    rw [h] at hj; cases hj
    exact ⟨b', by simp, hb⟩
  · exact ⟨c, by simp [e, hj], .refl c⟩

theorem SlOk.mono {rv : Value} {b b' : Blk} {off : Nat} {len : Option Nat} {v : Value} (h : SlOk rv b off len v) (hb : Ble b b') : SlOk rv b' off len v := by
  obtain ⟨a, n, c, e, hnc, h⟩ := h
  refine ⟨a, n, c, e, hnc, ?_⟩
  cases b with
  | lst sz ts m =>
    rcases hb with rfl | ⟨ts', m', rfl, hl⟩
    · trivial
    · obtain ⟨h1, h2, h3, A, C, h4, h5⟩ := h
      refine ⟨by omega, fun hl' => by rw [h2 hl']; omega, fun l hl' => by rw [hl]; exact h3 l hl', A, C, by rw [h4, hl], h5⟩
  | cells cs => rcases hb with rfl | ⟨cs', rfl⟩ | ⟨cs', rfl⟩ <;> trivial
  | frz cs => rcases hb with rfl | rfl <;> trivial
  | map nr es => rcases hb with rfl | ⟨nr', es', rfl⟩ <;> trivial
  | gone =>
    have e : b' = .gone := hb
    subst e; trivial

theorem RelT.keep {S S' C : Cells} {w w' : World} {x : T} {v : Value} (h : RelT S w x v) (hS : ∀ b o, S b o → S' b o) (hk : Keep C w w') (hC : ∀ b o, C b o → ¬ S b o) (hlt : ∀ b o, S b o → b < w.heap.size) :
    RelT S' w' x v := h.mono hS fun b o hs => hk.cell (fun hc => hC b o hc hs) (hlt b o hs)

section mono
variable {S S' C : Cells} {w w' : World} {ρ ρ' : Infos} {own own' : Own}
  (hS : ∀ b o, S b o → S' b o) (hk : Keep C w w') (hC : ∀ b o, C b o → ¬ S b o) (hlt : ∀ b o, S b o → b < w.heap.size)
  (hle : OwnLe own own') (hρ : ∀ k b, look k own = some b → ρ' k = ρ k)
include hS hk hC hlt hle hρ
theorem RelV.mono {v : V} {u : Value} (h : RelV S w ρ own v u) : RelV S' w' ρ' own' v u := by
  induction h with
  | t x v h => exact .t x v (h.keep hS hk hC hlt)
  | dead v => exact .dead v
  | ptr k off b h =>
    obtain ⟨b', hb', _⟩ := hle k b h
    rw [← hρ k b h]; exact .ptr k off b' hb'
  | eptr k i j b h ad ha =>
    obtain ⟨b', hb', hl⟩ := hle k b h
    refine .eptr k i j b' hb' ad fun sz ts m e => ?_
    rw [hρ k b h]
    subst e
    cases b with
    | lst sz' ts' m' =>
      rcases hl with hl | ⟨_, _, hl, _⟩
      · simp at hl
      · simp at hl
        obtain ⟨rfl, rfl, rfl⟩ := hl
        exact ha _ _ _ rfl
    | cells cs => rcases hl with hl | ⟨cs', hl⟩ | ⟨cs', hl⟩ <;> simp at hl
    | frz cs => rcases hl with hl | hl <;> simp at hl
    | map nr es => rcases hl with hl | ⟨nr', es', hl⟩ <;> simp at hl
    | gone => simp [Ble] at hl
  | sl k off len b h v hv =>
    obtain ⟨b', hb', hl⟩ := hle k b h
    exact .sl k off len b' hb' v (by rw [hρ k b h]; exact hv.mono hl)
  | cl sz xs a h => exact .cl sz xs a (h.keep hS hk hC hlt)
  | ce a => exact .ce a
  | mp k b h =>
    obtain ⟨b', hb', _⟩ := hle k b h
    rw [← hρ k b h]; exact .mp k b' hb'
  | fn f xs ys a b hn hm h h' ih ih' => exact .fn f xs ys a b hn hm ih ih'
  | agg cs arr hn h ih => exact .agg cs arr hn ih
  | tup cs arr hn h ih => exact .tup cs arr hn ih
end mono
end Go.Nx
