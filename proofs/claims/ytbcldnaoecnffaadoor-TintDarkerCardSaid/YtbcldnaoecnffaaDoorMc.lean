/-
  WHAT A VALUE OF THE MACHINE MEANS IN A WORLD.
-/
import Derived.Test.YtbcldnaoecnffaaDoorMb
import Derived.Below
set_option linter.unusedVariables false
namespace Go.Mx
open Go.RowKit

abbrev Cells := Nat → Nat → Prop

/-- A pure value as it lies in a world; what it reaches lies in S. -/
inductive RelT (S : Cells) (w : World) : T → Value → Prop
  | bool (b : Bool) : RelT S w (.bool b) (.bool b)
  | int (k : IntKind) (n : Int) : RelT S w (.int k n) (.int k n)
  | str (s : ByteArray) : RelT S w (.str s) (.string s)
  | list (sz : Nat) (xs : List T) (a : Option Addr) (cap : Nat) (u : Nat → Nat → Value) (hcap : xs.length ≤ cap)
      (ha : xs ≠ [] → ∃ b o, a = some ⟨b, o, none⟩ ∧ ∀ i j, i < xs.length → j < sz → S b (o + i * sz + j) ∧ w.cell? ⟨b, o + i * sz + j, none⟩ = some (u i j))
      (hsz : ∀ x ∈ xs, x.cells.length = sz)
      (hr : ∀ (i : Nat) (x : T), xs[i]? = some x → ∀ (j : Nat) (c : T), x.cells[j]? = some c → RelT S w c (u i j)) : RelT S w (.list sz xs) (.slice a xs.length cap)
  | nils : RelT S w .nils (.slice none 0 0)
  | agg (cs : List T) (arr : Array Value) (hn : arr.size = cs.length) (h : ∀ (i : Nat) (c : T) (v : Value), cs[i]? = some c → arr[i]? = some v → RelT S w c v) : RelT S w (.agg cs) (.agg arr)
  | tup (cs : List T) (arr : Array Value) (hn : arr.size = cs.length) (h : ∀ (i : Nat) (c : T) (v : Value), cs[i]? = some c → arr[i]? = some v → RelT S w c v) : RelT S w (.tup cs) (.tuple arr)
  | fn (f : Fn) (xs ys : List T) (a b : Array Value) (hn : a.size = xs.length) (hm : b.size = ys.length) (h : ∀ (i : Nat) (c : T) (v : Value), xs[i]? = some c → a[i]? = some v → RelT S w c v)
      (h' : ∀ (i : Nat) (c : T) (v : Value), ys[i]? = some c → b[i]? = some v → RelT S w c v) : RelT S w (.fn f xs ys) (.func f a b)
  | nilfn : RelT S w .nilfn .nilFunc
  | ifc (t : TypeId) (x : T) (v : Value) (h : RelT S w x v) : RelT S w (.ifc t x) (.iface t v)
  | nilif : RelT S w .nilif .nilIface
  | nilptr : RelT S w .nilptr (.pointer none)
  | nilmap : RelT S w .nilmap (.map none)

theorem RelT.mono {S S' : Cells} {w w' : World} (hS : ∀ b o, S b o → S' b o) (hw : ∀ b o, S b o → w'.cell? ⟨b, o, none⟩ = w.cell? ⟨b, o, none⟩) {x : T} {v : Value}
    (h : RelT S w x v) : RelT S' w' x v := by
  induction h with
  | bool b => exact .bool b
  | int k n => exact .int k n
  | str s => exact .str s
  | list sz xs a cap u hcap ha hsz hr ih =>
    refine .list sz xs a cap u hcap (fun hne => ?_) hsz ih
    obtain ⟨b, o, e, h⟩ := ha hne
    refine ⟨b, o, e, fun i j hi hj => ?_⟩
    obtain ⟨h1, h2⟩ := h i j hi hj
    exact ⟨hS _ _ h1, by rw [hw _ _ h1]; exact h2⟩
  | nils => exact .nils
  | agg cs arr hn h ih => exact .agg cs arr hn ih
  | tup cs arr hn h ih => exact .tup cs arr hn ih
  | fn f xs ys a b hn hm h h' ih ih' => exact .fn f xs ys a b hn hm ih ih'
  | nilfn => exact .nilfn
  | ifc t x v h ih => exact .ifc t x v ih
  | nilif => exact .nilif
  | nilptr => exact .nilptr
  | nilmap => exact .nilmap

def vone : Value → Bool
  | .agg _ | .tuple _ => false
  | _ => true
theorem RelT.one {S : Cells} {w : World} {x : T} {v : Value} (h : RelT S w x v) (hx : x.one = true) : vone v = true ∧ v.cells = #[v] := by
  cases h <;> first | exact ⟨rfl, rfl⟩ | (simp [T.one] at hx)
/-- the cells of a value -/
theorem RelT.cells {S : Cells} {w : World} {x : T} {v : Value} (h : RelT S w x v) (hx : x.one = true ∨ ∃ cs, x = .agg cs) :
    v.cells.size = x.cells.length ∧ ∀ (i : Nat) (c : T) (u : Value), x.cells[i]? = some c → v.cells[i]? = some u → RelT S w c u := by
  rcases hx with hx | ⟨cs, rfl⟩
  · have hv := (h.one hx).2
    have hc : x.cells = [x] := by cases x <;> first | rfl | (simp [T.one] at hx)
    rw [hv, hc]
    refine ⟨rfl, fun i c u h1 h2 => ?_⟩
    cases i with
    | zero => simp at h1 h2; subst h1; subst h2; exact h
    | succ i => simp at h1
  · cases h with
    | agg cs arr hn h => exact ⟨hn, h⟩
theorem RelT.agg_of {S : Cells} {w : World} {cs : List T} {v : Value} (h : RelT S w (.agg cs) v) : ∃ arr, v = .agg arr ∧ arr.size = cs.length ∧ ∀ (i : Nat) (c : T) (u : Value), cs[i]? = some c → arr[i]? = some u → RelT S w c u := by
  cases h with
  | agg cs arr hn h => exact ⟨arr, rfl, hn, h⟩

structure Info where
  blk : Nat
  rv : Value

/-- what the block of key k claims for itself -/
def claim (i : Info) : Blk → Cells
  | .cells _ => fun b _ => b = i.blk
  | .lst _ _ true => fun b _ => b = i.blk
  | .lst sz _ false => fun b j => ∃ o sp n cap, i.rv = .slice (some ⟨b, o, sp⟩) n cap ∧ o + n * sz ≤ j ∧ j < o + cap * sz
def Blk.wr : Blk → Bool
  | .cells _ => true
  | .lst _ _ w => w

def RelV (S : Cells) (w : World) (ρ : Nat → Info) (own : List (Nat × Blk)) : V → Value → Prop
  | .t x, v => RelT S w x v
  | .dead, _ => True
  | .ptr k off, v => ∃ b ad, look k own = some b ∧ v = .pointer (some ad) ∧ (b.wr = true → ad = ⟨(ρ k).blk, off, none⟩)
  | .eptr k i j, v => ∃ sz ts wr ad, look k own = some (.lst sz ts wr) ∧ v = .pointer (some ad) ∧ (wr = true → ad = ⟨(ρ k).blk, i * sz + j, none⟩)
  | .vptr cs off, v => ∃ b o, v = .pointer (some ⟨b, o + off, none⟩) ∧ ∀ i c, cs[i]? = some c → S b (o + i) ∧ ∃ u, w.cell? ⟨b, o + i, none⟩ = some u ∧ RelT S w c u
  | .sl k off len, v => ∃ sz ts wr, look k own = some (.lst sz ts wr) ∧ off + len ≤ ts.length ∧
      (wr = true → ∃ cap, len ≤ cap ∧ v = .slice (some ⟨(ρ k).blk, off * sz, none⟩) len cap ∧ (off + len = ts.length → ∀ a n c, (ρ k).rv = .slice a n c → cap = c - off)) ∧
      (wr = false → RelT S w (.list sz ((ts.drop off).take len)) v ∧ (off = 0 → len = ts.length → v = (ρ k).rv))
  | .mp _, _ => False
  | .fn _ _ _, _ => False

def RelB (S : Cells) (w : World) (ρ : Nat → Info) (own : List (Nat × Blk)) (k : Nat) : Blk → Prop
  | .cells cs => ∃ arr e, w.heap[(ρ k).blk]? = some (.cells arr e (0, 0)) ∧ arr.size = cs.length ∧ ∀ (i : Nat) (c : V) (v : Value), cs[i]? = some c → arr[i]? = some v → RelV S w ρ own c v
  | .lst sz ts true => ∃ arr e cap, w.heap[(ρ k).blk]? = some (.cells arr e (0, 0)) ∧ (ρ k).rv = .slice (some ⟨(ρ k).blk, 0, none⟩) ts.length cap ∧ ts.length ≤ cap ∧ cap * sz ≤ arr.size ∧
      (∀ x ∈ ts, x.cells.length = sz) ∧ ∀ i x j c, ts[i]? = some x → x.cells[j]? = some c → ∃ v, arr[i * sz + j]? = some v ∧ RelT S w c v
  | .lst sz ts false => RelT S w (.list sz ts) (ρ k).rv ∧ (∀ b o sp n cap, (ρ k).rv = .slice (some ⟨b, o, sp⟩) n cap → sp = none ∧ ∃ arr e, w.heap[b]? = some (.cells arr e (0, 0)) ∧ o + cap * sz ≤ arr.size) ∧
      (∀ n cap, (ρ k).rv = .slice none n cap → cap = 0)

/-- a world that is as it was, but for cells in C -/
def KeepB (C : Cells) (b : Nat) (o o' : Option Obj) : Prop :=
  o' = o ∨ ∃ c c' e f, o = some (.cells c e f) ∧ o' = some (.cells c' e f) ∧ c'.size = c.size ∧ ∀ j : Nat, ¬ C b j → c'[j]? = c[j]?
structure Keep (C : Cells) (w w' : World) : Prop where
  os : w'.os = w.os
  tape : w'.tape = w.tape
  output : w'.output = w.output
  size : w.heap.size ≤ w'.heap.size
  blk : ∀ b, b < w.heap.size → KeepB C b w.heap[b]? w'.heap[b]?

theorem KeepB.trans {C : Cells} {b : Nat} {x y z : Option Obj} (h : KeepB C b x y) (k : KeepB C b y z) : KeepB C b x z := by
  rcases h with rfl | ⟨c, c', e, f, rfl, rfl, hs, hj⟩
  · exact k
  · rcases k with rfl | ⟨d, d', e2, f2, hd, rfl, hs2, hj2⟩
    · exact .inr ⟨c, c', e, f, rfl, rfl, hs, hj⟩
    · simp only [Option.some.injEq, Obj.cells.injEq] at hd
      obtain ⟨rfl, rfl, rfl⟩ := hd
      exact .inr ⟨c, d', e, f, rfl, rfl, hs2.trans hs, fun j hc => (hj2 j hc).trans (hj j hc)⟩
theorem Keep.refl (C : Cells) (w : World) : Keep C w w := ⟨rfl, rfl, rfl, Nat.le_refl _, fun _ _ => .inl rfl⟩
theorem Keep.trans {C : Cells} {a b c : World} (h : Keep C a b) (k : Keep C b c) : Keep C a c :=
  ⟨k.os.trans h.os, k.tape.trans h.tape, k.output.trans h.output, Nat.le_trans h.size k.size, fun i hi => (h.blk i hi).trans (k.blk i (Nat.lt_of_lt_of_le hi h.size))⟩
theorem Keep.mono {C C' : Cells} {w w' : World} (h : Keep C w w') (hc : ∀ b o, b < w.heap.size → C b o → C' b o) : Keep C' w w' :=
  ⟨h.os, h.tape, h.output, h.size, fun b hb => by
    rcases h.blk b hb with e | ⟨c, c', e, f, h1, h2, h3, h4⟩
    · exact .inl e
    · exact .inr ⟨c, c', e, f, h1, h2, h3, fun j hj => h4 j fun hc' => hj (hc b j hb hc')⟩⟩
theorem cell?_eq (w : World) (b o : Nat) : w.cell? ⟨b, o, none⟩ = match w.heap[b]? with
    | some (.cells c _ _) => c[o]?
    | _ => none := by
  simp only [World.cell?]
  split <;> simp_all
theorem Keep.cell {C : Cells} {w w' : World} (h : Keep C w w') {b o : Nat} (hc : ¬ C b o) (hb : b < w.heap.size) : w'.cell? ⟨b, o, none⟩ = w.cell? ⟨b, o, none⟩ := by
  rw [cell?_eq, cell?_eq]
  rcases h.blk b hb with e | ⟨c, c', e, f, h1, h2, h3, h4⟩
  · rw [e]
  · rw [h1, h2]; exact h4 o hc
theorem Keep.below {w w' : World} (h : Keep (fun _ _ => False) w w') : Below w.heap.size w w' :=
  ⟨h.os, h.tape, h.output, h.size, fun b hb => by
    rcases h.blk b hb with e | ⟨c, c', e, f, h1, h2, h3, h4⟩
    · exact e
    · have : c' = c := Array.ext_getElem? fun j => h4 j (by simp)
      rw [h1, h2, this]⟩
theorem Keep.of_below {w w' : World} {C : Cells} (h : Below w.heap.size w w') : Keep C w w' :=
  ⟨h.os, h.tape, h.output, h.size, fun b hb => .inl (h.block b hb)⟩
theorem Keep.alloc (C : Cells) (w : World) (o : Obj) : Keep C w { w with heap := w.heap.push o } :=
  ⟨rfl, rfl, rfl, by simp, fun b hb => .inl (by simp [Array.getElem?_push, Nat.ne_of_lt hb])⟩
theorem Keep.drawn (C : Cells) (w : World) (d : Nat) : Keep C w { w with drawn := d } :=
  ⟨rfl, rfl, rfl, Nat.le_refl _, fun _ _ => .inl rfl⟩
theorem Keep.setCell {C : Cells} (w : World) (a : Addr) (v : Value) (hc : a.block < w.heap.size → C a.block a.off) : Keep C w (w.setCell a v) := by
  refine ⟨rfl, rfl, rfl, by simp [World.setCell], fun b hb => ?_⟩
  simp only [World.setCell, Array.getElem?_modify]
  by_cases e : a.block = b
  · subst e
    simp only [if_true]
    cases h : w.heap[a.block]? with
    | none => simp [KeepB]
    | some o =>
      cases o <;> try (simp [KeepB]; done)
      rename_i c e f
      refine .inr ⟨c, _, e, f, rfl, rfl, ?_, ?_⟩
      · split <;> simp
      · intro j hj
        split
        · rfl
        · rw [Array.getElem?_setIfInBounds_ne]
          intro he
          exact hj (he ▸ hc hb)
  · rw [if_neg e]; exact .inl rfl
end Go.Mx
