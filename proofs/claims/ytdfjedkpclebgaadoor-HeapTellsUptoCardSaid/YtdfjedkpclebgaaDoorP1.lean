/-
  A part of the machine, and of what is walked.
-/
import Derived.Test.YtdfjedkpclebgaaDoorP0
import Derived.Below
section
set_option linter.unusedVariables false
namespace Go.Nx
open Go.RowKit

abbrev Cells := Nat → Nat → Prop

def Flat (sz : Nat) (x : T) : Prop := x.cells.length = sz ∧ ∀ c ∈ x.cells, c.one = true
inductive RelT (S : Cells) (w : World) : T → Value → Prop
  | bool (b : Bool) : RelT S w (.bool b) (.bool b)
  | int (k : IntKind) (n : Int) : RelT S w (.int k n) (.int k n)
  | str (s : ByteArray) : RelT S w (.str s) (.string s)
  | list (sz : Nat) (xs : List T) (a : Option Addr) (cap : Nat) (u : Nat → Nat → Value) (hcap : xs.length ≤ cap)
      (ha : xs ≠ [] → ∃ b o, a = some ⟨b, o, none⟩ ∧ ∀ i j, i < xs.length → j < sz → S b (o + i * sz + j) ∧ w.cell? ⟨b, o + i * sz + j, none⟩ = some (u i j))
      (hsz : ∀ x ∈ xs, Flat sz x)
      (hr : ∀ (i : Nat) (x : T), xs[i]? = some x → ∀ (j : Nat) (c : T), x.cells[j]? = some c → RelT S w c (u i j)) : RelT S w (.list sz xs) (.slice a xs.length cap)
  | nils : RelT S w .nils (.slice none 0 0)
  | agg (cs : List T) (arr : Array Value) (hn : arr.size = cs.length) (h : ∀ (i : Nat) (c : T) (v : Value), cs[i]? = some c → arr[i]? = some v → RelT S w c v) : RelT S w (.agg cs) (.agg arr)
  | tup (cs : List T) (arr : Array Value) (hn : arr.size = cs.length) (h : ∀ (i : Nat) (c : T) (v : Value), cs[i]? = some c → arr[i]? = some v → RelT S w c v) : RelT S w (.tup cs) (.tuple arr)
  | fn (f : Fn) (xs ys : List T) (a b : Array Value) (hn : a.size = xs.length) (hm : b.size = ys.length) (h : ∀ (i : Nat) (c : T) (v : Value), xs[i]? = some c → a[i]? = some v → RelT S w c v)
      (h' : ∀ (i : Nat) (c : T) (v : Value), ys[i]? = some c → b[i]? = some v → RelT S w c v) : RelT S w (.fn f xs ys) (.func f a b)
  | nilfn : RelT S w .nilfn .nilFunc
  | ifc (t : TypeId) (x : T) (v : Value) (h : RelT S w x v) : RelT S w (.ifc t x) (.iface t v)
  | nilif : RelT S w .nilif .nilIface
  | nilptr : RelT S w .nilptr (.pointer none)
  | nilmap : RelT S w .nilmap (.map none)
  | ref (cs : List T) (b o : Nat) (u : Nat → Value) (ha : ∀ i, i < cs.length → S b (o + i) ∧ w.cell? ⟨b, o + i, none⟩ = some (u i))
      (h : ∀ (i : Nat) (c : T), cs[i]? = some c → RelT S w c (u i)) : RelT S w (.ref cs) (.pointer (some ⟨b, o, none⟩))

theorem RelT.mono {S S' : Cells} {w w' : World} (hS : ∀ b o, S b o → S' b o) (hw : ∀ b o, S b o → w'.cell? ⟨b, o, none⟩ = w.cell? ⟨b, o, none⟩) {x : T} {v : Value}
    (h : RelT S w x v) : RelT S' w' x v := by
  induction h with
  | bool b => exact .bool b
  | int k n => exact .int k n
  | str s => exact .str s
  | list sz xs a cap u hcap ha hsz hr ih =>
    refine .list sz xs a cap u hcap (fun hne => ?_) hsz ih
    obtain ⟨b, o, e, h⟩ := ha hne
    refine ⟨b, o, e, fun i j hi hj => ?_⟩
    obtain ⟨h1, h2⟩ := h i j hi hj
    exact ⟨hS _ _ h1, by rw [hw _ _ h1]; exact h2⟩
  | nils => exact .nils
  | agg cs arr hn h ih => exact .agg cs arr hn ih
  | tup cs arr hn h ih => exact .tup cs arr hn ih
  | fn f xs ys a b hn hm h h' ih ih' => exact .fn f xs ys a b hn hm ih ih'
  | nilfn => exact .nilfn
  | ifc t x v h ih => exact .ifc t x v ih
  | nilif => exact .nilif
  | nilptr => exact .nilptr
  | nilmap => exact .nilmap
  | ref cs b o u ha h ih => exact .ref cs b o u (fun i hi => ⟨hS _ _ (ha i hi).1, by rw [hw _ _ (ha i hi).1]; exact (ha i hi).2⟩) ih

def vone : Value → Bool
  | .agg _ | .tuple _ => false
  | _ => true
theorem RelT.one {S : Cells} {w : World} {x : T} {v : Value} (h : RelT S w x v) (hx : x.one = true) : vone v = true ∧ v.cells = #[v] := by
  cases h <;> first | exact ⟨rfl, rfl⟩ | (simp [T.one] at hx)
theorem RelT.cells {S : Cells} {w : World} {x : T} {v : Value} (h : RelT S w x v) (hx : x.one = true ∨ ∃ cs, x = .agg cs) :
    v.cells.size = x.cells.length ∧ ∀ (i : Nat) (c : T) (u : Value), x.cells[i]? = some c → v.cells[i]? = some u → RelT S w c u := by
  rcases hx with hx | ⟨cs, rfl⟩
  · have hv := (h.one hx).2
    have hc : x.cells = [x] := by cases x <;> first | rfl | (simp [T.one] at hx)
    rw [hv, hc]
    refine ⟨rfl, fun i c u h1 h2 => ?_⟩
    cases i with
    | zero => simp at h1 h2; subst h1; subst h2; exact h
    | succ i => simp at h1
  · cases h with
    | agg cs arr hn h => exact ⟨hn, h⟩
theorem RelT.agg_of {S : Cells} {w : World} {cs : List T} {v : Value} (h : RelT S w (.agg cs) v) : ∃ arr, v = .agg arr ∧ arr.size = cs.length ∧ ∀ (i : Nat) (c : T) (u : Value), cs[i]? = some c → arr[i]? = some u → RelT S w c u := by
  cases h with
  | agg cs arr hn h => exact ⟨arr, rfl, hn, h⟩
theorem RelT.bool_of {S : Cells} {w : World} {b : Bool} {v : Value} (h : RelT S w (.bool b) v) : v = .bool b := by cases h; rfl
theorem RelT.int_of {S : Cells} {w : World} {k : IntKind} {n : Int} {v : Value} (h : RelT S w (.int k n) v) : v = .int k n := by cases h; rfl
theorem RelT.str_of {S : Cells} {w : World} {s : ByteArray} {v : Value} (h : RelT S w (.str s) v) : v = .string s := by cases h; rfl

structure Info where
  blk : Nat
  rv : Value
abbrev Infos := Nat → Info

def claim (i : Info) : Blk → Cells
  | .cells _ => fun b _ => b = i.blk
  | .map _ _ => fun b _ => b = i.blk
  | .lst _ _ 0 => fun b _ => b = i.blk ∧ ∃ a n c, i.rv = .slice a n c ∧ c ≠ 0
  | .lst sz _ 1 => fun b j => ∃ o sp n cap, i.rv = .slice (some ⟨b, o, sp⟩) n cap ∧ o + n * sz ≤ j ∧ j < o + cap * sz
  | _ => fun _ _ => False
def Claims (ρ : Infos) (own : Own) : Cells := fun b o => ∃ k blk, look k own = some blk ∧ claim (ρ k) blk b o

def SlOk (rv : Value) (b : Blk) (off : Nat) (len : Option Nat) (v : Value) : Prop :=
  ∃ a n c, v = .slice a n c ∧ n ≤ c ∧ match b with
    | .lst sz ts _ => off ≤ ts.length ∧ (len = none → n = ts.length - off) ∧ (∀ l, len = some l → n = l ∧ off + l ≤ ts.length) ∧
        ∃ A C, rv = .slice A ts.length C ∧ (len = none → c = C - off) ∧ c ≤ C - off ∧ (0 < c → ∃ b o, A = some ⟨b, o, none⟩ ∧ a = some ⟨b, o + off * sz, none⟩)
    | _ => True

inductive RelV (S : Cells) (w : World) (ρ : Infos) (own : Own) : V → Value → Prop
  | t (x : T) (v : Value) (h : RelT S w x v) : RelV S w ρ own (.t x) v
  | dead (v : Value) : RelV S w ρ own .dead v
  | ptr (k off : Nat) (b : Blk) (h : look k own = some b) : RelV S w ρ own (.ptr k off) (.pointer (some ⟨(ρ k).blk, off, none⟩))
  | eptr (k i j : Nat) (b : Blk) (h : look k own = some b) (ad : Addr) (ha : ∀ sz ts m, b = .lst sz ts m → ad = ⟨(ρ k).blk, i * sz + j, none⟩) : RelV S w ρ own (.eptr k i j) (.pointer (some ad))
  | sl (k off : Nat) (len : Option Nat) (b : Blk) (h : look k own = some b) (v : Value) (hv : SlOk (ρ k).rv b off len v) : RelV S w ρ own (.sl k off len) v
  | cl (sz : Nat) (xs : List T) (a : Option Addr) (h : RelT S w (.list sz xs) (.slice a xs.length xs.length)) : RelV S w ρ own (.cl sz xs) (.slice a xs.length xs.length)
  | ce (a : Addr) : RelV S w ρ own .ce (.slice (some a) 0 0)
  | mp (k : Nat) (b : Blk) (h : look k own = some b) : RelV S w ρ own (.mp k) (.map (some (ρ k).blk))
  | fn (f : Fn) (xs ys : List V) (a b : Array Value) (hn : a.size = xs.length) (hm : b.size = ys.length) (h : ∀ (i : Nat) (c : V) (v : Value), xs[i]? = some c → a[i]? = some v → RelV S w ρ own c v)
      (h' : ∀ (i : Nat) (c : V) (v : Value), ys[i]? = some c → b[i]? = some v → RelV S w ρ own c v) : RelV S w ρ own (.fn f xs ys) (.func f a b)
  | agg (cs : List V) (arr : Array Value) (hn : arr.size = cs.length) (h : ∀ (i : Nat) (c : V) (v : Value), cs[i]? = some c → arr[i]? = some v → RelV S w ρ own c v) : RelV S w ρ own (.agg cs) (.agg arr)
  | tup (cs : List V) (arr : Array Value) (hn : arr.size = cs.length) (h : ∀ (i : Nat) (c : V) (v : Value), cs[i]? = some c → arr[i]? = some v → RelV S w ρ own c v) : RelV S w ρ own (.tup cs) (.tuple arr)
theorem RelV.t_of {S : Cells} {w : World} {ρ : Infos} {own : Own} {x : T} {v : Value} (h : RelV S w ρ own (.t x) v) : RelT S w x v := by cases h with | t _ _ h => exact h

def RelB (S : Cells) (w : World) (ρ : Infos) (own : Own) (k : Nat) : Blk → Prop
  | .cells cs => ∃ arr e, w.heap[(ρ k).blk]? = some (.cells arr e (0, 0)) ∧ arr.size = cs.length ∧ ∀ (i : Nat) (c : V) (v : Value), cs[i]? = some c → arr[i]? = some v → RelV S w ρ own c v
  | .frz cs => ∀ (i : Nat) (c : T), cs[i]? = some c → S (ρ k).blk i ∧ ∃ u, w.cell? ⟨(ρ k).blk, i, none⟩ = some u ∧ RelT S w c u
  | .lst sz ts 0 => (∀ x ∈ ts, Flat sz x) ∧ ∃ A C, (ρ k).rv = .slice A ts.length C ∧ ts.length ≤ C ∧
      (C = 0 ∨ (A = some ⟨(ρ k).blk, 0, none⟩ ∧ ∃ arr e, w.heap[(ρ k).blk]? = some (.cells arr e (0, 0)) ∧ C * sz ≤ arr.size ∧
        ∀ (i : Nat) (x : T) (j : Nat) (c : T), ts[i]? = some x → x.cells[j]? = some c → ∃ v, arr[i * sz + j]? = some v ∧ RelT S w c v))
  | .lst sz ts 1 => RelT S w (.list sz ts) (ρ k).rv ∧ (∀ b o sp n cap, (ρ k).rv = .slice (some ⟨b, o, sp⟩) n cap → (cap = n ∨ sp = none ∧ ∃ arr e, w.heap[b]? = some (.cells arr e (0, 0)) ∧ o + cap * sz ≤ arr.size)) ∧
      (∀ n cap, (ρ k).rv = .slice none n cap → cap = 0)
  | .lst sz ts _ => RelT S w (.list sz ts) (ρ k).rv
  | .map nr es => (nr = true → miB es = true) ∧ ∃ arr clock, w.heap[(ρ k).blk]? = some (.map arr clock) ∧ arr.size = es.length ∧ ∀ (i : Nat) (e : T × V) (m : MapEntry), es[i]? = some e → arr[i]? = some m → RelT S w e.1 m.key ∧ RelV S w ρ own e.2 m.val
  | .gone => True

def KeepB (C : Cells) (b : Nat) (o o' : Option Obj) : Prop :=
  o' = o ∨ (∃ c c' e f, o = some (.cells c e f) ∧ o' = some (.cells c' e f) ∧ c'.size = c.size ∧ ∀ j : Nat, ¬ C b j → c'[j]? = c[j]?) ∨
  (C b 0 ∧ ∃ es n es' n', o = some (.map es n) ∧ o' = some (.map es' n'))
structure Keep (C : Cells) (w w' : World) : Prop where
  os : w'.os = w.os
  tape : w'.tape = w.tape
  output : w'.output = w.output
  size : w.heap.size ≤ w'.heap.size
  blk : ∀ b, b < w.heap.size → KeepB C b w.heap[b]? w'.heap[b]?
theorem KeepB.trans {C : Cells} {b : Nat} {x y z : Option Obj} (h : KeepB C b x y) (k : KeepB C b y z) : KeepB C b x z := by
  rcases h with rfl | ⟨c, c', e, f, rfl, rfl, hs, hj⟩ | ⟨hc, es, n, es', n', rfl, rfl⟩
  · exact k
  · rcases k with rfl | ⟨d, d', e2, f2, hd, rfl, hs2, hj2⟩ | ⟨hc, es, n, es', n', h1, h2⟩
    · exact .inr (.inl ⟨c, c', e, f, rfl, rfl, hs, hj⟩)
    · simp only [Option.some.injEq, Obj.cells.injEq] at hd
      obtain ⟨rfl, rfl, rfl⟩ := hd
      exact .inr (.inl ⟨c, d', e, f, rfl, rfl, hs2.trans hs, fun j hc => (hj2 j hc).trans (hj j hc)⟩)
    · simp at h1
  · rcases k with rfl | ⟨d, d', e2, f2, hd, rfl, hs2, hj2⟩ | ⟨hc', es2, n2, es2', n2', h1, rfl⟩
    · exact .inr (.inr ⟨hc, es, n, es', n', rfl, rfl⟩)
    · simp at hd
    · exact .inr (.inr ⟨hc, es, n, es2', n2', rfl, rfl⟩)
theorem KeepB.mono {C C' : Cells} {b : Nat} {x y : Option Obj} (h : KeepB C b x y) (hc : ∀ o, C b o → C' b o) : KeepB C' b x y := by
  rcases h with h | ⟨c, c', e, f, h1, h2, hs, hj⟩ | ⟨h0, h1⟩
  · exact .inl h
  · exact .inr (.inl ⟨c, c', e, f, h1, h2, hs, fun j hj' => hj j fun h => hj' (hc j h)⟩)
  · exact .inr (.inr ⟨hc _ h0, h1⟩)
theorem Keep.refl (C : Cells) (w : World) : Keep C w w := ⟨rfl, rfl, rfl, Nat.le_refl _, fun _ _ => .inl rfl⟩
theorem Keep.mono {C C' : Cells} {w w' : World} (h : Keep C w w') (hc : ∀ b o, b < w.heap.size → C b o → C' b o) : Keep C' w w' :=
  ⟨h.os, h.tape, h.output, h.size, fun b hb => (h.blk b hb).mono fun o => hc b o hb⟩
theorem Keep.comp {C C' : Cells} {a b c : World} (h : Keep C a b) (k : Keep C' b c) (hc : ∀ x o, x < a.heap.size → C' x o → C x o) : Keep C a c :=
  ⟨k.os.trans h.os, k.tape.trans h.tape, k.output.trans h.output, Nat.le_trans h.size k.size, fun i hi =>
    (h.blk i hi).trans ((k.blk i (Nat.lt_of_lt_of_le hi h.size)).mono fun o => hc i o hi)⟩
theorem Keep.trans {C : Cells} {a b c : World} (h : Keep C a b) (k : Keep C b c) : Keep C a c := h.comp k fun _ _ _ h => h
theorem cell?_eq (w : World) (b o : Nat) : w.cell? ⟨b, o, none⟩ = match w.heap[b]? with
    | some (.cells c _ _) => c[o]?
    | _ => none := by
  simp only [World.cell?]
  split <;> simp_all
theorem cell_row {w : World} {b : Nat} {arr : Array Value} {e : TypeId} {fr : Nat × Nat} (h : w.heap[b]? = some (.cells arr e fr)) (j : Nat) : w.cell? ⟨b, j, none⟩ = arr[j]? := by
  rw [cell?_eq, h]
theorem Keep.cell {C : Cells} {w w' : World} (h : Keep C w w') {b o : Nat} (hc : ¬ C b o) (hb : b < w.heap.size) : w'.cell? ⟨b, o, none⟩ = w.cell? ⟨b, o, none⟩ := by
  rw [cell?_eq, cell?_eq]
  rcases h.blk b hb with e | ⟨c, c', e, f, h1, h2, h3, h4⟩ | ⟨h0, es, n, es', n', h1, h2⟩
  · rw [e]
  · rw [h1, h2]; exact h4 o hc
  · rw [h1, h2]
theorem lt_of_heap {w : World} {b : Nat} {o : Obj} (h : w.heap[b]? = some o) : b < w.heap.size := by
  rcases Nat.lt_or_ge b w.heap.size with h' | h'
  · exact h'
  · rw [Array.getElem?_eq_none h'] at h; cases h
theorem Keep.row {C : Cells} {w w' : World} (h : Keep C w w') {b : Nat} {arr : Array Value} {t : TypeId} {f : Nat × Nat} (hh : w.heap[b]? = some (.cells arr t f)) :
    ∃ arr', w'.heap[b]? = some (.cells arr' t f) ∧ arr'.size = arr.size ∧ ∀ j, ¬ C b j → arr'[j]? = arr[j]? := by
  rcases h.blk b (lt_of_heap hh) with e | ⟨c, c', t', f', h1, h2, h3, h4⟩ | ⟨h0, es, n, es', n', h1, h2⟩
  · exact ⟨arr, by rw [e]; exact hh, rfl, fun _ _ => rfl⟩
  · rw [h1] at hh
    simp only [Option.some.injEq, Obj.cells.injEq] at hh
    obtain ⟨rfl, rfl, rfl⟩ := hh
    exact ⟨c', h2, h3, h4⟩
  · rw [h1] at hh; simp at hh
theorem Keep.row_same {C : Cells} {w w' : World} (h : Keep C w w') {b : Nat} {arr : Array Value} {t : TypeId} {f : Nat × Nat} (hh : w.heap[b]? = some (.cells arr t f)) (hn : ∀ o, ¬ C b o) :
    w'.heap[b]? = some (.cells arr t f) := by
  obtain ⟨arr', h1, h2, h3⟩ := h.row hh
  have : arr' = arr := Array.ext_getElem? fun j => h3 j (hn j)
  rw [h1, this]
theorem Keep.map_same {C : Cells} {w w' : World} (h : Keep C w w') {b : Nat} {es : Array MapEntry} {n : Nat} (hh : w.heap[b]? = some (.map es n)) (hn : ∀ o, ¬ C b o) :
    w'.heap[b]? = some (.map es n) := by
  rcases h.blk b (lt_of_heap hh) with e | ⟨c, c', t', f', h1, h2, h3, h4⟩ | ⟨h0, _⟩
  · rw [e]; exact hh
  · rw [h1] at hh; simp at hh
  · exact (hn 0 h0).elim
theorem Keep.below {w w' : World} (h : Keep (fun _ _ => False) w w') : Below w.heap.size w w' :=
  ⟨h.os, h.tape, h.output, h.size, fun b hb => by
    rcases h.blk b hb with e | ⟨c, c', e, f, h1, h2, h3, h4⟩ | ⟨h0, _⟩
    · exact e
    · have : c' = c := Array.ext_getElem? fun j => h4 j (by simp)
      rw [h1, h2, this]
    · exact h0.elim⟩
theorem Keep.of_below {w w' : World} {C : Cells} (h : Below w.heap.size w w') : Keep C w w' :=
  ⟨h.os, h.tape, h.output, h.size, fun b hb => .inl (h.block b hb)⟩
theorem Keep.alloc (C : Cells) (w : World) (o : Obj) : Keep C w { w with heap := w.heap.push o } :=
  ⟨rfl, rfl, rfl, by simp, fun b hb => .inl (by simp [Array.getElem?_push, Nat.ne_of_lt hb])⟩
theorem Keep.drawn (C : Cells) (w : World) (d : Nat) : Keep C w { w with drawn := d } :=
  ⟨rfl, rfl, rfl, Nat.le_refl _, fun _ _ => .inl rfl⟩
theorem Keep.setCell {C : Cells} (w : World) (a : Addr) (v : Value) (hc : a.block < w.heap.size → C a.block a.off) : Keep C w (w.setCell a v) := by
  refine ⟨rfl, rfl, rfl, by simp [World.setCell], fun b hb => ?_⟩
  simp only [World.setCell, Array.getElem?_modify]
  by_cases e : a.block = b
  · subst e
    simp only [if_true]
    cases h : w.heap[a.block]? with
    | none => simp [KeepB]
    | some o =>
      cases o <;> try (exact .inl rfl)
      rename_i c e f
      refine .inr (.inl ⟨c, _, e, f, rfl, rfl, ?_, ?_⟩)
      · split <;> simp
      · intro j hj
        split
        · rfl
        · rw [Array.getElem?_setIfInBounds_ne]
          intro he
          exact hj (he ▸ hc hb)
  · rw [if_neg e]; exact .inl rfl

def Ble : Blk → Blk → Prop
  | .lst sz ts _, b => b = .gone ∨ ∃ ts' m', b = .lst sz ts' m' ∧ ts'.length = ts.length
  | .gone, b => b = .gone
  | .cells _, b => b = .gone ∨ (∃ cs, b = .cells cs) ∨ ∃ cs, b = .frz cs
  | .frz cs, b => b = .gone ∨ b = .frz cs
  | .map _ _, b => b = .gone ∨ ∃ nr es, b = .map nr es
theorem Ble.refl (b : Blk) : Ble b b := by
  cases b with
  | cells cs => exact .inr (.inl ⟨cs, rfl⟩)
  | frz cs => exact .inr rfl
  | lst sz ts m => exact .inr ⟨ts, m, rfl, rfl⟩
  | map nr es => exact .inr ⟨nr, es, rfl⟩
  | gone => rfl
theorem Ble.gone (b : Blk) : Ble b .gone := by cases b <;> first | exact .inl rfl | rfl
theorem Ble.trans {a b c : Blk} (h : Ble a b) (k : Ble b c) : Ble a c := by
  cases a with
  | cells cs =>
    rcases h with rfl | ⟨cs', rfl⟩ | ⟨cs', rfl⟩
    · have : c = .gone := k
      exact .inl this
    · exact k
    · rcases k with rfl | rfl
      · exact .inl rfl
      · exact .inr (.inr ⟨_, rfl⟩)
  | frz cs =>
    rcases h with rfl | rfl
    · have : c = .gone := k
      exact .inl this
    · exact k
  | lst sz ts m =>
    rcases h with rfl | ⟨ts', m', rfl, h1⟩
    · have : c = .gone := k
      exact .inl this
    · rcases k with rfl | ⟨ts2, m2, rfl, h2⟩
      · exact .inl rfl
      · exact .inr ⟨ts2, m2, rfl, h2.trans h1⟩
  | map nr es =>
    rcases h with rfl | ⟨nr', es', rfl⟩
    · have : c = .gone := k
      exact .inl this
    · exact k
  | gone =>
    have e : b = .gone := h
    subst e; exact k
def OwnLe (own own' : Own) : Prop := ∀ k b, look k own = some b → ∃ b', look k own' = some b' ∧ Ble b b'
theorem OwnLe.refl (own : Own) : OwnLe own own := fun k b h => ⟨b, h, .refl b⟩
theorem OwnLe.trans {a b c : Own} (h : OwnLe a b) (k : OwnLe b c) : OwnLe a c := fun j x hj => by
  obtain ⟨y, h1, h2⟩ := h j x hj
  obtain ⟨z, h3, h4⟩ := k j y h1
  exact ⟨z, h3, h2.trans h4⟩
theorem OwnLe.cons {own : Own} {k : Nat} (b : Blk) (h : look k own = none) : OwnLe own ((k, b) :: own) := fun j c hj => by
  refine ⟨c, ?_, .refl c⟩
  simp only [look]
  rw [if_neg]
  · exact hj
  · intro e; subst e; rw [h] at hj; cases hj
theorem OwnLe.upd {own : Own} {k : Nat} {b b' : Blk} (h : look k own = some b) (hb : Ble b b') : OwnLe own (Nx.upd k b' own) := fun j c hj => by
  rw [look_upd h]
  by_cases e : j = k
  · subst e
    rw [h] at hj; cases hj
    exact ⟨b', by simp, hb⟩
  · exact ⟨c, by simp [e, hj], .refl c⟩

theorem SlOk.mono {rv : Value} {b b' : Blk} {off : Nat} {len : Option Nat} {v : Value} (h : SlOk rv b off len v) (hb : Ble b b') : SlOk rv b' off len v := by
  obtain ⟨a, n, c, e, hnc, h⟩ := h
  refine ⟨a, n, c, e, hnc, ?_⟩
  cases b with
  | lst sz ts m =>
    rcases hb with rfl | ⟨ts', m', rfl, hl⟩
    · trivial
    · obtain ⟨h1, h2, h3, A, C, h4, h5⟩ := h
      refine ⟨by omega, fun hl' => by rw [h2 hl']; omega, fun l hl' => by rw [hl]; exact h3 l hl', A, C, by rw [h4, hl], h5⟩
  | cells cs => rcases hb with rfl | ⟨cs', rfl⟩ | ⟨cs', rfl⟩ <;> trivial
  | frz cs => rcases hb with rfl | rfl <;> trivial
  | map nr es => rcases hb with rfl | ⟨nr', es', rfl⟩ <;> trivial
  | gone =>
    have e : b' = .gone := hb
    subst e; trivial

theorem RelT.keep {S S' C : Cells} {w w' : World} {x : T} {v : Value} (h : RelT S w x v) (hS : ∀ b o, S b o → S' b o) (hk : Keep C w w') (hC : ∀ b o, C b o → ¬ S b o) (hlt : ∀ b o, S b o → b < w.heap.size) :
    RelT S' w' x v := h.mono hS fun b o hs => hk.cell (fun hc => hC b o hc hs) (hlt b o hs)

section mono
variable {S S' C : Cells} {w w' : World} {ρ ρ' : Infos} {own own' : Own}
  (hS : ∀ b o, S b o → S' b o) (hk : Keep C w w') (hC : ∀ b o, C b o → ¬ S b o) (hlt : ∀ b o, S b o → b < w.heap.size)
  (hle : OwnLe own own') (hρ : ∀ k b, look k own = some b → ρ' k = ρ k)
include hS hk hC hlt hle hρ
theorem RelV.mono {v : V} {u : Value} (h : RelV S w ρ own v u) : RelV S' w' ρ' own' v u := by
  induction h with
  | t x v h => exact .t x v (h.keep hS hk hC hlt)
  | dead v => exact .dead v
  | ptr k off b h =>
    obtain ⟨b', hb', _⟩ := hle k b h
    rw [← hρ k b h]; exact .ptr k off b' hb'
  | eptr k i j b h ad ha =>
    obtain ⟨b', hb', hl⟩ := hle k b h
    refine .eptr k i j b' hb' ad fun sz ts m e => ?_
    rw [hρ k b h]
    subst e
    cases b with
    | lst sz' ts' m' =>
      rcases hl with hl | ⟨_, _, hl, _⟩
      · simp at hl
      · simp at hl
        obtain ⟨rfl, rfl, rfl⟩ := hl
        exact ha _ _ _ rfl
    | cells cs => rcases hl with hl | ⟨cs', hl⟩ | ⟨cs', hl⟩ <;> simp at hl
    | frz cs => rcases hl with hl | hl <;> simp at hl
    | map nr es => rcases hl with hl | ⟨nr', es', hl⟩ <;> simp at hl
    | gone => simp [Ble] at hl
  | sl k off len b h v hv =>
    obtain ⟨b', hb', hl⟩ := hle k b h
    exact .sl k off len b' hb' v (by rw [hρ k b h]; exact hv.mono hl)
  | cl sz xs a h => exact .cl sz xs a (h.keep hS hk hC hlt)
  | ce a => exact .ce a
  | mp k b h =>
    obtain ⟨b', hb', _⟩ := hle k b h
    rw [← hρ k b h]; exact .mp k b' hb'
  | fn f xs ys a b hn hm h h' ih ih' => exact .fn f xs ys a b hn hm ih ih'
  | agg cs arr hn h ih => exact .agg cs arr hn ih
  | tup cs arr hn h ih => exact .tup cs arr hn ih
end mono
end Go.Nx
end
section
set_option linter.unusedVariables false
namespace Go.Nx
open Go.RowKit

section mono
variable {S S' C : Cells} {w w' : World} {ρ ρ' : Infos} {own own' : Own}
  (hS : ∀ b o, S b o → S' b o) (hk : Keep C w w') (hC : ∀ b o, C b o → ¬ S b o) (hlt : ∀ b o, S b o → b < w.heap.size)
  (hle : OwnLe own own') (hρ : ∀ k b, look k own = some b → ρ' k = ρ k)
include hS hk hC hlt hle hρ
theorem RelB.mono {k : Nat} {blk : Blk} (hb : look k own = some blk) (hcl : ∀ b o, claim (ρ k) blk b o → ¬ C b o) (h : RelB S w ρ own k blk) : RelB S' w' ρ' own' k blk := by
  have e := hρ k blk hb
  have mv : ∀ {v u}, RelV S w ρ own v u → RelV S' w' ρ' own' v u := fun h => RelV.mono hS hk hC hlt hle hρ h
  cases blk with
  | cells cs =>
    obtain ⟨arr, t, h1, h2, h3⟩ := h
    refine ⟨arr, t, ?_, h2, fun i c v hc hv => mv (h3 i c v hc hv)⟩
    rw [e]; exact hk.row_same h1 fun o => hcl _ o rfl
  | frz cs =>
    intro i c hc
    obtain ⟨h1, u, h2, h3⟩ := h i c hc
    rw [e]
    exact ⟨hS _ _ h1, u, by rw [hk.cell (fun hc => hC _ _ hc h1) (hlt _ _ h1)]; exact h2, h3.keep hS hk hC hlt⟩
  | lst sz ts m =>
    match m with
    | 0 =>
      obtain ⟨h0, A, C', h1, h2, h3⟩ := h
      refine ⟨h0, A, C', by rw [e]; exact h1, h2, ?_⟩
      rcases h3 with h3 | ⟨h3, arr, t, h4, h5, h6⟩
      · exact .inl h3
      · by_cases hz : C' = 0
        · exact .inl hz
        · refine .inr ⟨by rw [e]; exact h3, arr, t, ?_, h5, fun i x j c hx hc => ?_⟩
          · rw [e]; exact hk.row_same h4 fun o => hcl _ o ⟨rfl, A, _, C', h1, hz⟩
          · obtain ⟨v, g1, g2⟩ := h6 i x j c hx hc
            exact ⟨v, g1, g2.keep hS hk hC hlt⟩
    | 1 =>
      obtain ⟨h1, h2, h3⟩ := h
      refine ⟨by rw [e]; exact h1.keep hS hk hC hlt, fun b o sp n cap hrv => ?_, fun n cap hrv => ?_⟩
      · rw [e] at hrv
        rcases h2 b o sp n cap hrv with h4 | ⟨h4, arr, t, h5, h6⟩
        · exact .inl h4
        · obtain ⟨arr', g1, g2, _⟩ := hk.row h5
          exact .inr ⟨h4, arr', t, g1, by omega⟩
      · rw [e] at hrv; exact h3 n cap hrv
    | m + 2 =>
      show RelT S' w' (.list sz ts) (ρ' k).rv
      rw [e]; exact RelT.keep h hS hk hC hlt
  | map nr es =>
    obtain ⟨h0, arr, cl, h1, h2, h3⟩ := h
    refine ⟨h0, arr, cl, ?_, h2, fun i x m hx hm => ?_⟩
    · rw [e]; exact hk.map_same h1 fun o => hcl _ o rfl
    · obtain ⟨g1, g2⟩ := h3 i x m hx hm
      exact ⟨g1.keep hS hk hC hlt, mv g2⟩
  | gone => trivial
end mono

abbrev Gl := Nat → Option (List T)
def GlOk (gl : Gl) (S : Cells) (w : World) : Prop :=
  ∀ g cs, gl g = some cs → ∀ (i : Nat) (c : T), cs[i]? = some c → S g i ∧ ∃ u, w.cell? ⟨g, i, none⟩ = some u ∧ RelT S w c u
structure Mem (gl : Gl) (S : Cells) (w : World) (ρ : Infos) (own : Own) : Prop where
  lt : ∀ b o, S b o → b < w.heap.size
  blk : ∀ k blk, look k own = some blk → RelB S w ρ own k blk
  cl : ∀ k blk, look k own = some blk → ∀ b o, claim (ρ k) blk b o → b < w.heap.size ∧ ¬ S b o
  disj : ∀ k k' blk blk', look k own = some blk → look k' own = some blk' → k ≠ k' → ∀ b o, claim (ρ k) blk b o → ¬ claim (ρ k') blk' b o
  gl : GlOk gl S w

structure Base where
  w : World
  S : Cells
  ρ : Infos
  own : Own
  df : List Deferred
def Base.C (B : Base) : Cells := Claims B.ρ B.own

structure Rel (Γ : Env) (B : Base) (S : Cells) (ρ : Infos) (st : St) (a : Act) (w : World) : Prop where
  mem : Mem Γ.gl S w ρ st.own
  keep : Keep B.C B.w w
  base : ∀ b o, B.S b o → b < B.w.heap.size
  sub : ∀ b o, B.S b o → S b o
  sup : ∀ b o, S b o → B.S b o ∨ B.C b o ∨ B.w.heap.size ≤ b
  clB : ∀ b o, Claims ρ st.own b o → B.C b o ∨ B.w.heap.size ≤ b
  le : OwnLe B.own st.own
  rho : ∀ k b, look k B.own = some b → ρ k = B.ρ k
  prot : ∀ k b, look k B.own = some b → k ∈ Γ.prot
  len : a.tmps.size = st.tm.length
  tm : ∀ (i : Nat) (v : V) (u : Value), st.tm[i]? = some v → a.tmps[i]? = some u → RelV S w ρ st.own v u
  defers : a.defers = B.df

theorem GlOk.mono {gl : Gl} {S S' C : Cells} {w w' : World} (h : GlOk gl S w) (hS : ∀ b o, S b o → S' b o) (hk : Keep C w w') (hC : ∀ b o, C b o → ¬ S b o) (hlt : ∀ b o, S b o → b < w.heap.size) : GlOk gl S' w' := by
  intro g cs hg i c hc
  obtain ⟨h1, u, h2, h3⟩ := h g cs hg i c hc
  exact ⟨hS _ _ h1, u, by rw [hk.cell (fun hc => hC _ _ hc h1) (hlt _ _ h1)]; exact h2, h3.keep hS hk hC hlt⟩

theorem Mem.move {gl : Gl} {S S' C : Cells} {ρ ρ' : Infos} {own own' : Own} {w w' : World} (h : Mem gl S w ρ own) (hk : Keep C w w') (hC : ∀ b o, C b o → ¬ S b o)
    (hS : ∀ b o, S b o → S' b o) (hlt : ∀ b o, S' b o → b < w'.heap.size) (hle : OwnLe own own') (hρ : ∀ k b, look k own = some b → ρ' k = ρ k)
    (hown : ∀ k blk, look k own' = some blk → (look k own = some blk ∧ ∀ b o, claim (ρ k) blk b o → ¬ C b o ∧ ¬ S' b o) ∨
      (RelB S' w' ρ' own' k blk ∧ ∀ b o, claim (ρ' k) blk b o → b < w'.heap.size ∧ ¬ S' b o))
    (hdisj : ∀ k k' blk blk', look k own' = some blk → look k' own' = some blk' → k ≠ k' → ∀ b o, claim (ρ' k) blk b o → ¬ claim (ρ' k') blk' b o) :
    Mem gl S' w' ρ' own' := by
  refine ⟨hlt, fun k blk hl => ?_, fun k blk hl b o hc => ?_, hdisj, h.gl.mono hS hk hC h.lt⟩
  · rcases hown k blk hl with ⟨h1, h2⟩ | h1
    · exact RelB.mono hS hk hC h.lt hle hρ h1 (fun b o hc => (h2 b o hc).1) (h.blk k blk h1)
    · exact h1.1
  · rcases hown k blk hl with ⟨h1, h2⟩ | h1
    · rw [hρ k blk h1] at hc
      exact ⟨Nat.lt_of_lt_of_le (h.cl k blk h1 b o hc).1 hk.size, (h2 b o hc).2⟩
    · exact h1.2 b o hc

theorem Rel.move {Γ : Env} {B : Base} {S S' C : Cells} {ρ ρ' : Infos} {tm : List V} {own own' : Own} {a : Act} {w w' : World}
    (h : Rel Γ B S ρ ⟨tm, own⟩ a w) (hm : Mem Γ.gl S' w' ρ' own') (hk : Keep C w w') (hC : ∀ b o, C b o → Claims ρ own b o)
    (hS : ∀ b o, S b o → S' b o) (hS' : ∀ b o, S' b o → S b o ∨ Claims ρ own b o ∨ w.heap.size ≤ b)
    (hle : OwnLe own own') (hρ : ∀ k b, look k own = some b → ρ' k = ρ k) (hcl : ∀ b o, Claims ρ' own' b o → Claims ρ own b o ∨ w.heap.size ≤ b) :
    Rel Γ B S' ρ' ⟨tm, own'⟩ a w' := by
  have hCS : ∀ b o, C b o → ¬ S b o := fun b o hc hs => by
    obtain ⟨k, blk, h1, h2⟩ := hC b o hc
    exact (h.mem.cl k blk h1 b o h2).2 hs
  refine ⟨hm, ?_, h.base, fun b o hb => hS b o (h.sub b o hb), fun b o hb => ?_, fun b o hb => ?_, h.le.trans hle, fun k b hb => ?_, h.prot, h.len, fun i v u hv hu => ?_, h.defers⟩
  · refine h.keep.comp hk fun x o hx hc => ?_
    rcases h.clB x o (hC x o hc) with hc | hc
    · exact hc
    · omega
  · rcases hS' b o hb with hb | hb | hb
    · exact h.sup b o hb
    · exact .inr (h.clB b o hb)
    · exact .inr (.inr (Nat.le_trans h.keep.size hb))
  · rcases hcl b o hb with hb | hb
    · exact h.clB b o hb
    · exact .inr (Nat.le_trans h.keep.size hb)
  · obtain ⟨b', hb', _⟩ := h.le k b hb
    rw [hρ k b' hb', h.rho k b hb]
  · exact RelV.mono hS hk hCS h.mem.lt hle hρ (h.tm i v u hv hu)

section
variable {Γ : Env} {B : Base} {S : Cells} {ρ : Infos} {tm : List V} {own : Own} {a : Act} {w : World}

theorem Rel.put {st : St} (h : Rel Γ B S ρ st a w) {d : Option Nat} {v : V} {u : Value} (hv : RelV S w ρ st.own v u) : Rel Γ B S ρ (st.put d v) (a.put d u) w := by
  cases d with
  | none => exact h
  | some d =>
    refine ⟨h.mem, h.keep, h.base, h.sub, h.sup, h.clB, h.le, h.rho, h.prot, ?_, ?_, h.defers⟩
    · simp [Act.put, St.put, h.len]
    · intro i v' u' hv' hu'
      simp only [Act.put, St.put] at hv' hu'
      by_cases e : d = i
      · subst e
        have hlt : d < st.tm.length := by
          rcases Nat.lt_or_ge d st.tm.length with h' | h'
          · exact h'
          · rw [List.getElem?_eq_none (by simpa using h')] at hv'; cases hv'
        rw [List.getElem?_set_self hlt] at hv'
        rw [Array.getElem?_setIfInBounds_self_of_lt (by rw [h.len]; exact hlt)] at hu'
        cases hv'; cases hu'
        exact hv
      · rw [List.getElem?_set_ne e] at hv'
        rw [Array.getElem?_setIfInBounds_ne e] at hu'
        exact h.tm i v' u' hv' hu'

theorem Rel.drawn (h : Rel Γ B S ρ ⟨tm, own⟩ a w) (n : Nat) : Rel Γ B S ρ ⟨tm, own⟩ a { w with drawn := n } := by
  have hk := Keep.drawn (fun _ _ => False) w n
  refine h.move ?_ hk (fun _ _ h => h.elim) (fun _ _ h => h) (fun _ _ h => .inl h) (.refl _) (fun _ _ _ => rfl) (fun _ _ h => .inl h)
  exact h.mem.move hk (fun _ _ h => h.elim) (fun _ _ h => h) h.mem.lt (.refl _) (fun _ _ _ => rfl)
    (fun k blk hl => .inl ⟨hl, fun b o hc => ⟨fun h => h, (h.mem.cl k blk hl b o hc).2⟩⟩) h.mem.disj

theorem Rel.called (h : Rel Γ B S ρ ⟨tm, own⟩ a w) {w' : World} (hb : Below w.heap.size w w') :
    Rel Γ B (fun b o => S b o ∨ (w.heap.size ≤ b ∧ b < w'.heap.size)) ρ ⟨tm, own⟩ a w' := by
  have hk := Keep.of_below (C := fun _ _ => False) hb
  refine h.move ?_ hk (fun _ _ h => h.elim) (fun _ _ h => .inl h) (fun b o h => ?_) (.refl _) (fun _ _ _ => rfl) (fun _ _ h => .inl h)
  · refine h.mem.move hk (fun _ _ h => h.elim) (fun _ _ h => .inl h) (fun b o hb' => ?_) (.refl _) (fun _ _ _ => rfl) (fun k blk hl => .inl ⟨hl, fun b o hc => ⟨fun h => h, fun hs => ?_⟩⟩) h.mem.disj
    · rcases hb' with hb' | hb'
      · exact Nat.lt_of_lt_of_le (h.mem.lt b o hb') hk.size
      · exact hb'.2
    · obtain ⟨h1, h2⟩ := h.mem.cl k blk hl b o hc
      rcases hs with hs | hs
      · exact h2 hs
      · omega
  · rcases h with h | h
    · exact .inl h
    · exact .inr (.inr h.1)

theorem look_cons {k j : Nat} {b : Blk} {own : Own} : look j ((k, b) :: own) = if j = k then some b else look j own := by
  simp only [look]
  by_cases e : k = j
  · subst e; simp
  · rw [if_neg e, if_neg (Ne.symm e)]
theorem Claims.cons {ρ : Infos} {own : Own} {k : Nat} {blk : Blk} {b o : Nat} (h : Claims ρ ((k, blk) :: own) b o) : claim (ρ k) blk b o ∨ ∃ j x, j ≠ k ∧ look j own = some x ∧ claim (ρ j) x b o := by
  obtain ⟨j, x, h1, h2⟩ := h
  rw [look_cons] at h1
  by_cases e : j = k
  · subst e; simp at h1; subst h1; exact .inl h2
  · simp [e] at h1; exact .inr ⟨j, x, e, h1, h2⟩

theorem Rel.grow (h : Rel Γ B S ρ ⟨tm, own⟩ a w) {w' : World} {S' : Cells} {k : Nat} {blk : Blk} (i : Info) (hf : look k own = none) (hk : Keep (fun _ _ => False) w w')
    (hS : ∀ b o, S b o → S' b o) (hS' : ∀ b o, S' b o → S b o ∨ (w.heap.size ≤ b ∧ b < w'.heap.size))
    (hcl : ∀ b o, claim i blk b o → w.heap.size ≤ b ∧ b < w'.heap.size ∧ ¬ S' b o)
    (hb : ∀ ρ' : Infos, ρ' k = i → (∀ j b, look j own = some b → ρ' j = ρ j) → RelB S' w' ρ' ((k, blk) :: own) k blk) :
    ∃ ρ' : Infos, ρ' k = i ∧ Rel Γ B S' ρ' ⟨tm, (k, blk) :: own⟩ a w' := by
  refine ⟨fun j => if j = k then i else ρ j, by simp, ?_⟩
  have hρ : ∀ j b, look j own = some b → (if j = k then i else ρ j) = ρ j := by
    intro j b hj
    rw [if_neg]
    intro e; subst e; rw [hf] at hj; cases hj
  have hF : ∀ b o, (fun _ _ => False : Cells) b o → ¬ S b o := fun _ _ h => h.elim
  have old : ∀ j x b o, look j own = some x → claim (ρ j) x b o → b < w.heap.size ∧ ¬ S' b o := fun j x b o hj hc => by
    obtain ⟨g1, g2⟩ := h.mem.cl j x hj b o hc
    refine ⟨g1, fun hs => ?_⟩
    rcases hS' b o hs with hs | hs
    · exact g2 hs
    · omega
  refine h.move ?_ hk (fun _ _ h => h.elim) hS (fun b o hb => (hS' b o hb).imp id fun h => .inr h.1) (OwnLe.cons blk hf) hρ fun b o hc => ?_
  · refine h.mem.move hk hF hS (fun b o hb => ?_) (OwnLe.cons blk hf) hρ (fun j x hj => ?_) (fun j j' x x' hj hj' hne b o hc hc' => ?_)
    · rcases hS' b o hb with hb | hb
      · exact Nat.lt_of_lt_of_le (h.mem.lt b o hb) hk.size
      · exact hb.2
    · rw [look_cons] at hj
      by_cases e : j = k
      · subst e
        simp at hj; subst hj
        refine .inr ⟨hb _ (by simp) hρ, fun b o hc => ?_⟩
        simp only [if_true] at hc
        obtain ⟨_, g1, g2⟩ := hcl b o hc
        exact ⟨g1, g2⟩
      · simp [e] at hj
        exact .inl ⟨hj, fun b o hc => ⟨fun h => h, (old j x b o hj hc).2⟩⟩
    · rw [look_cons] at hj hj'
      by_cases e : j = k
      · subst e
        simp [Ne.symm hne] at hj hj'
        subst hj
        simp only [if_true] at hc
        simp only [if_neg (Ne.symm hne)] at hc'
        have := (hcl b o hc).1
        have := (old j' x' b o hj' hc').1
        omega
      · simp [e] at hj
        simp only [if_neg e] at hc
        by_cases e' : j' = k
        · subst e'
          simp at hj'; subst hj'
          simp only [if_true] at hc'
          have := (hcl b o hc').1
          have := (old j x b o hj hc).1
          omega
        · simp [e'] at hj'
          simp only [if_neg e'] at hc'
          exact h.mem.disj j j' x x' hj hj' hne b o hc hc'
  · rcases hc.cons with hc | ⟨j, x, hj, h1, h2⟩
    · simp only [if_true] at hc
      exact .inr (hcl b o hc).1
    · simp only [if_neg hj] at h2
      exact .inl ⟨j, x, h1, h2⟩

theorem Rel.turn (h : Rel Γ B S ρ ⟨tm, own⟩ a w) {w' : World} {S' : Cells} {k : Nat} {blk blk' : Blk} (hl : look k own = some blk) (hle : Ble blk blk')
    (hk : Keep (claim (ρ k) blk) w w') (hS : ∀ b o, S b o → S' b o) (hS' : ∀ b o, S' b o → S b o ∨ claim (ρ k) blk b o)
    (hcl : ∀ b o, claim (ρ k) blk' b o → claim (ρ k) blk b o ∧ ¬ S' b o) (hb : RelB S' w' ρ (upd k blk' own) k blk') :
    Rel Γ B S' ρ ⟨tm, upd k blk' own⟩ a w' := by
  have hc0 := h.mem.cl k blk hl
  have hle' := OwnLe.upd hl hle
  have lk : ∀ j x, look j (upd k blk' own) = some x → (j = k ∧ x = blk') ∨ (j ≠ k ∧ look j own = some x) := fun j x hj => by
    rw [look_upd hl] at hj
    by_cases e : j = k
    · rw [if_pos e] at hj; cases hj; exact .inl ⟨e, rfl⟩
    · rw [if_neg e] at hj; exact .inr ⟨e, hj⟩
  refine h.move ?_ hk (fun b o hc => ⟨k, blk, hl, hc⟩) hS (fun b o hb => (hS' b o hb).imp id fun hc => .inl ⟨k, blk, hl, hc⟩) hle' (fun _ _ _ => rfl) fun b o hc => ?_
  · refine h.mem.move hk (fun b o hc => (hc0 b o hc).2) hS (fun b o hb => ?_) hle' (fun _ _ _ => rfl) (fun j x hj => ?_) (fun j j' x x' hj hj' hne b o hc hc' => ?_)
    · rcases hS' b o hb with hb | hb
      · exact Nat.lt_of_lt_of_le (h.mem.lt b o hb) hk.size
      · exact Nat.lt_of_lt_of_le (hc0 b o hb).1 hk.size
    · rcases lk j x hj with ⟨rfl, rfl⟩ | ⟨e, hj⟩
      · refine .inr ⟨hb, fun b o hc => ?_⟩
        obtain ⟨g1, g2⟩ := hcl b o hc
        exact ⟨Nat.lt_of_lt_of_le (hc0 b o g1).1 hk.size, g2⟩
      · refine .inl ⟨hj, fun b o hc => ⟨fun hc' => h.mem.disj j k x blk hj hl e b o hc hc', fun hs => ?_⟩⟩
        rcases hS' b o hs with hs | hs
        · exact (h.mem.cl j x hj b o hc).2 hs
        · exact h.mem.disj j k x blk hj hl e b o hc hs
    · rcases lk j x hj with ⟨e1, e2⟩ | ⟨e, hj2⟩
      · rw [e1, e2] at hc
        rcases lk j' x' hj' with ⟨e3, e4⟩ | ⟨e', hj2'⟩
        · exact hne (e1.trans e3.symm)
        · exact h.mem.disj k j' blk x' hl hj2' (fun e => e' e.symm) b o (hcl b o hc).1 hc'
      · rcases lk j' x' hj' with ⟨e3, e4⟩ | ⟨e', hj2'⟩
        · rw [e3, e4] at hc'
          exact h.mem.disj j k x blk hj2 hl e b o hc (hcl b o hc').1
        · exact h.mem.disj j j' x x' hj2 hj2' hne b o hc hc'
  · obtain ⟨j, x, hj, hc⟩ := hc
    rcases lk j x hj with ⟨e1, e2⟩ | ⟨e, hj⟩
    · rw [e1, e2] at hc; exact .inl ⟨_, _, hl, (hcl b o hc).1⟩
    · exact .inl ⟨j, x, hj, hc⟩

theorem Rel.ev (h : Rel Γ B S ρ ⟨tm, own⟩ a w) {i : Nat} {v : V} (hv : tm[i]? = some v) : RelV S w ρ own v (a.tmps.getD i undef) := by
  have hlt : i < a.tmps.size := by
    rw [h.len]
    rcases Nat.lt_or_ge i tm.length with h' | h'
    · exact h'
    · rw [List.getElem?_eq_none h'] at hv; cases hv
  have e : a.tmps[i]? = some (a.tmps.getD i undef) := by simp [hlt]
  exact h.tm i v _ hv e
end
end Go.Nx
end
