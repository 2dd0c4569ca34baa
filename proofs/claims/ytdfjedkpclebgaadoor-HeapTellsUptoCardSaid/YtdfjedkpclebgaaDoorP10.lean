/-
  A part of the machine, and of what is walked.
-/
import Derived.Test.YtdfjedkpclebgaaDoorP9
import Derived.Deep.Slices
import Derived.ChangeArms
import Derived.Lib.LaidTab
import Derived.Lib.SmallJoins
section
set_option linter.unusedVariables false
namespace Go.Nx
open Go.RowKit Go.ChangeShapes Go.WideShapes Go.Deep

inductive Sh where
  | int (k : IntKind)
  | bool
  | str
  | sl (n b : Nat) (e : Sh)
  | st (e : Sh)
  | fnil
  | fs (n : Nat) (e r : Sh)
def mkEl (xs : List T) : T := match xs with
  | [x] => x
  | xs => .agg xs
def Fits : Sh → List T → Prop
  | .int k, xs => ∃ n, xs = [.int k n] ∧ (Lit.int k n).wf = true
  | .bool, xs => ∃ b, xs = [.bool b]
  | .str, xs => ∃ s, xs = [.str s] ∧ s.size ≤ 140737488351232
  | .sl n b e, xs => ∃ ys, xs = [.list n ys] ∧ ys.length * b ≤ 140737488351232 ∧ ∀ y ∈ ys, Flat n y ∧ Fits e y.cells ∧ y = mkEl y.cells
  | .st e, xs => Fits e xs
  | .fnil, xs => xs = []
  | .fs n e r, xs => n ≤ xs.length ∧ Fits e (xs.take n) ∧ Fits r (xs.drop n)
def SmallF (B : Nat) : Sh → List T → Prop
  | .str, xs => ∀ s, xs = [.str s] → s.size ≤ B
  | .sl n b e, xs => ∀ m ys, xs = [.list m ys] → ys.length ≤ B ∧ ∀ y ∈ ys, SmallF B e y.cells
  | .st e, xs => SmallF B e xs
  | .fs n e r, xs => SmallF B e (xs.take n) ∧ SmallF B r (xs.drop n)
  | .int _, _ => True
  | .bool, _ => True
  | .fnil, _ => True
structure BkOk {H : Type} (bk : DataW H → Nat) : Prop where
  str : ∀ b, b.length ≤ bk (.lit (.string b))
  sl : ∀ el sp, el.length ≤ bk (.slice el sp) ∧ ∀ x ∈ el, bk x ≤ bk (.slice el sp)
  agg : ∀ ps, ∀ x ∈ ps, bk x ≤ bk (.agg ps)
def fldsOf (P : Program) (g : TypeId → Option Sh) (tot : Nat) : Nat → List Field → Option Sh
  | off, [] => if off = tot then some .fnil else none
  | off, f :: r => if f.offset = off then match g f.type with
    | some e => match fldsOf P g tot (off + P.cellsOf f.type) r with
      | some r => some (.fs (P.cellsOf f.type) e r)
      | none => none
    | none => none
    else none
def shOf (P : Program) : Nat → TypeId → Option Sh
  | 0, _ => none
  | n + 1, t => match P.underlying t with
    | some .bool => some .bool
    | some (.int k) => some (.int k)
    | some .string => some .str
    | some (.slice e) => if P.cellsOf e = 0 then none else match shOf P n e with
      | some s => some (.sl (P.cellsOf e) (P.bytesOf e) s)
      | none => none
    | some (.struct fs) => match fldsOf P (shOf P n) (P.cellsOf t) 0 fs.toList with
      | some s => some (.st s)
      | none => none
    | _ => none

section
variable {H : Type} {enc : TypeId × Value → H} {P : Program} {w : World} {base : Nat} {spare : Nat → Bool} {held : Bool} {bk : DataW H → Nat} {B : Nat} {sm : Prop}
def InW (w : World) : Cells := fun b _ => b < w.heap.size
theorem cells_one (x : T) (h : x.one = true) : x.cells = [x] := by cases x <;> first | rfl | cases h
theorem mkEl_cells {xs : List T} (h : ∀ x ∈ xs, x.one = true) : (mkEl xs).cells = xs := by
  unfold mkEl
  split
  · exact cells_one _ (h _ (by simp))
  · rfl
theorem cell?_spot {w : World} {a : Addr} {v : Value} (h : w.cell? a = some v) : a.spot = none ∧ a.block < w.heap.size := by
  unfold World.cell? at h
  split at h
  · rename_i e
    split at h
    · cases h
    · rename_i hs
      refine ⟨by cases hx : a.spot <;> simp_all, ?_⟩
      rcases Nat.lt_or_ge a.block w.heap.size with h' | h'
      · exact h'
      · rw [Array.getElem?_eq_none h'] at e; cases e
  · cases h
theorem add_off {a : Addr} (h : a.spot = none) (n : Nat) : a.add n = ⟨a.block, a.off + n, none⟩ := by
  unfold Addr.add
  obtain ⟨b, o, s⟩ := a
  simp only at h
  subst h
  split
  · rename_i e; simp [e]
  · rfl
theorem flds_le {g : TypeId → Option Sh} {tot : Nat} : ∀ (l : List Field) (off : Nat) (s : Sh), fldsOf P g tot off l = some s → off ≤ tot
  | [], off, s, h => by
    simp only [fldsOf] at h
    split at h
    · omega
    · cases h
  | f :: l, off, s, h => by
    simp only [fldsOf] at h
    split at h
    · split at h
      · split at h
        · rename_i e; have := flds_le l _ _ e; omega
        · cases h
      · cases h
    · cases h
theorem flds_rel {g : TypeId → Option Sh} {tot : Nat} {cs : List Value} (hcs : cs.length = tot) {n : Nat}
    (ih : ∀ (t : TypeId) (sh : Sh), g t = some sh → ∀ (fuel : Nat) (cs : List Value) (d : DataW H) (ps : List MemPlace), DataW.trod enc P w base spare held fuel t cs = some (d, ps) →
      (d.weights P t).all (· ≤ reachBytes) = true → (sm → bk d ≤ B) → ∃ xs : List T, xs.length = cs.length ∧ (∀ (i : Nat) (x : T) (c : Value), xs[i]? = some x → cs[i]? = some c → RelT (InW w) w x c) ∧ (∀ x ∈ xs, x.one = true) ∧ Fits sh xs ∧ (sm → SmallF B sh xs)) :
    ∀ (l : List Field) (off : Nat) (s : Sh) (ys : List (DataW H × List MemPlace)), fldsOf P g tot off l = some s → ys.length = l.length →
      (∀ (i : Nat) (f : Field), l[i]? = some f → DataW.trod enc P w base spare held n f.type ((cs.drop f.offset).take (P.cellsOf f.type)) = ys[i]?) → (DataW.weightsEach P (l.map (·.type)) (ys.map (·.1))).all (· ≤ reachBytes) = true → (sm → ∀ y ∈ ys, bk y.1 ≤ B) →
      ∃ xs : List T, xs.length = (cs.drop off).length ∧ (∀ (i : Nat) (x : T) (c : Value), xs[i]? = some x → (cs.drop off)[i]? = some c → RelT (InW w) w x c) ∧ (∀ x ∈ xs, x.one = true) ∧ Fits s xs ∧ (sm → SmallF B s xs)
  | [], off, s, ys, h, hl, hf, hw, hB => by
    simp only [fldsOf] at h
    split at h
    · rename_i e
      cases h
      subst e
      exact ⟨[], by simp [hcs], fun i x c h => by simp at h, by simp, rfl, fun _ => trivial⟩
    · cases h
  | f :: l, off, s, [], h, hl, hf, hw, hB => by simp at hl
  | f :: l, off, s, y :: ys, h, hl, hf, hw, hB => by
    simp only [fldsOf] at h
    split at h
    · rename_i eo
      split at h
      · rename_i e he
        split at h
        · rename_i r hr
          cases h
          have hle := flds_le l _ _ hr
          simp only [List.map_cons, DataW.weightsEach, List.all_append, Bool.and_eq_true] at hw
          have h0 := hf 0 f rfl
          simp only [List.getElem?_cons_zero] at h0
          obtain ⟨y1, y2⟩ := y
          obtain ⟨x1, a1, a2, a3, a4, a5⟩ := ih _ _ he _ _ _ _ h0 hw.1 (fun h => hB h (y1, y2) (by simp))
          obtain ⟨x2, b1, b2, b3, b4, b5⟩ := flds_rel hcs ih l _ _ ys hr (by simpa using hl) (fun i f' hf' => hf (i + 1) f' (by simpa using hf')) hw.2 (fun h y hy => hB h y (List.mem_cons_of_mem _ hy))
          have hx1 : x1.length = P.cellsOf f.type := by rw [a1, eo]; simp; omega
          refine ⟨x1 ++ x2, by simp [hx1, b1]; omega, fun i x c hx hc => ?_, fun x hx => ?_, ⟨by simp [hx1], ?_, ?_⟩, fun hsm => ⟨?_, ?_⟩⟩
          · by_cases hi : i < x1.length
            · rw [List.getElem?_append_left hi] at hx
              refine a2 i x c hx ?_
              rw [eo, List.getElem?_take, if_pos (by omega)]; exact hc
            · rw [List.getElem?_append_right (by omega)] at hx
              refine b2 _ x c hx ?_
              rw [List.getElem?_drop] at hc ⊢
              rw [← hc]; congr 1; omega
          · rcases List.mem_append.1 hx with h | h
            · exact a3 x h
            · exact b3 x h
          · rw [← hx1, List.take_left]; exact a4
          · rw [← hx1, List.drop_left]; exact b4
          · rw [← hx1, List.take_left]; exact a5 hsm
          · rw [← hx1, List.drop_left]; exact b5 hsm
        · cases h
      · cases h
    · cases h
theorem trod_rel (hbk : sm → BkOk bk) : ∀ (n : Nat) (t : TypeId) (sh : Sh), shOf P n t = some sh → ∀ (fuel : Nat) (cs : List Value) (d : DataW H) (ps : List MemPlace), DataW.trod enc P w base spare held fuel t cs = some (d, ps) →
    (d.weights P t).all (· ≤ reachBytes) = true → (sm → bk d ≤ B) → ∃ xs : List T, xs.length = cs.length ∧ (∀ (i : Nat) (x : T) (c : Value), xs[i]? = some x → cs[i]? = some c → RelT (InW w) w x c) ∧ (∀ x ∈ xs, x.one = true) ∧ Fits sh xs ∧ (sm → SmallF B sh xs) := by
  intro n
  induction n with
  | zero => intro t sh h; cases h
  | succ n ih =>
    intro t sh hsh fuel cs d ps h hw hB
    have one : ∀ (x : T) (c : Value), RelT (InW w) w x c → ∀ (i : Nat) (y : T) (c' : Value), [x][i]? = some y → [c][i]? = some c' → RelT (InW w) w y c' := by
      intro x c hr i y c' h1 h2
      cases i with
      | zero => simp at h1 h2; subst h1 h2; exact hr
      | succ i => simp at h1
    simp only [shOf] at hsh
    split at hsh
    · rename_i e
      cases hsh
      obtain ⟨b, rfl, _⟩ := DataW.trod_bool e h
      exact ⟨[.bool b], rfl, one _ _ (.bool b), by simp [T.one], ⟨b, rfl⟩, fun _ => trivial⟩
    · rename_i k e
      cases hsh
      obtain ⟨b, rfl, _, hwf⟩ := DataW.trod_int e h
      exact ⟨[.int k b], rfl, one _ _ (.int k b), by simp [T.one], ⟨b, rfl, hwf⟩, fun _ => trivial⟩
    · rename_i e
      cases hsh
      obtain ⟨s, rfl, hx, _⟩ := DataW.trod_string e h
      cases hx
      refine ⟨[.str s], rfl, one _ _ (.str s), by simp [T.one], ⟨s, rfl, ?_⟩, fun hsm s' hs' => ?_⟩
      rotate_left
      · cases hs'
        have h1 := (hbk hsm).str s.data.toList
        have h2 := hB hsm
        have h3 : s.size = s.data.toList.length := rfl
        omega
      simp [DataW.weights, reachBytes] at hw
      exact of_decide_eq_true hw
    · rename_i e he
      split at hsh
      · cases hsh
      rename_i hpos0
      split at hsh
      · rename_i s hs
        cases hsh
        rcases open_slice he h with ⟨rfl, hx⟩ | ⟨a, len, cap, m, f, D, Pl, rfl, hb, hlc, hcm, hmm, hx, hel⟩
        · refine ⟨[.list (P.cellsOf e) []], rfl, one _ _ (.list _ [] none 0 (fun _ _ => .nilFunc) (by simp) (fun h => absurd rfl h) (fun x hx => by cases hx) (fun i x hx => by simp at hx)), by simp [T.one], ⟨[], rfl, by simp, by simp⟩, fun _ m ys hys => (by cases hys; simp)⟩
        · cases hx
          have hlm : len ≤ m := by rw [hmm]; split <;> omega
          simp only [DataW.weights, he, List.all_cons, Bool.and_eq_true, List.all_append, decide_eq_true_eq] at hw
          obtain ⟨hw1, hw2, hw3⟩ := hw
          have wAll : ∀ (l : List (DataW H)), (DataW.weightsAll P e l).all (· ≤ reachBytes) = true → ∀ d ∈ l, (d.weights P e).all (· ≤ reachBytes) = true := by
            intro l
            induction l with
            | nil => intro _ d hd; cases hd
            | cons x l ih =>
              intro h d hd
              simp only [DataW.weightsAll, List.all_append, Bool.and_eq_true] at h
              rcases List.mem_cons.1 hd with rfl | hd
              · exact h.1
              · exact ih h.2 d hd
          have each : ∀ i, i < len → ∃ (cs' : List Value) (xs : List T), w.cells? base (a.add (i * P.cellsOf e)) (P.cellsOf e) = some cs' ∧ xs.length = cs'.length ∧
              (∀ (j : Nat) (x : T) (c : Value), xs[j]? = some x → cs'[j]? = some c → RelT (InW w) w x c) ∧ (∀ x ∈ xs, x.one = true) ∧ Fits s xs ∧ (sm → SmallF B s xs) := by
            intro i hi
            obtain ⟨cs', h1, h2⟩ := hel i (by omega)
            obtain ⟨xs, g1, g2, g3, g4, g5⟩ := ih e s hs _ _ _ _ h2 (wAll _ hw2 _ (List.mem_map.2 ⟨i, by simpa using hi, rfl⟩)) (fun hsm => Nat.le_trans (((hbk hsm).sl _ _).2 _ (List.mem_map.2 ⟨i, by simpa using hi, rfl⟩)) (hB hsm))
            exact ⟨cs', xs, h1, g1, g2, g3, g4, g5⟩
          obtain ⟨CX, hCX⟩ := choose_lt (α := List Value × List T) (p := fun i cx => w.cells? base (a.add (i * P.cellsOf e)) (P.cellsOf e) = some cx.1 ∧ cx.2.length = cx.1.length ∧
              (∀ (j : Nat) (x : T) (c : Value), cx.2[j]? = some x → cx.1[j]? = some c → RelT (InW w) w x c) ∧ (∀ x ∈ cx.2, x.one = true) ∧ Fits s cx.2 ∧ (sm → SmallF B s cx.2)) (fun i hi => by
            obtain ⟨cs', xs, h⟩ := each i hi
            exact ⟨(cs', xs), h⟩)
          let ys : List T := (List.range len).map fun i => mkEl (CX i).2
          have hyl : ys.length = len := by simp [ys]
          have hyg : ∀ i y, ys[i]? = some y → i < len ∧ y = mkEl (CX i).2 := by
            intro i y hy
            simp only [ys, List.getElem?_map, Option.map_eq_some_iff] at hy
            obtain ⟨j, hj, rfl⟩ := hy
            obtain ⟨hj1, hj2⟩ := List.getElem?_eq_some_iff.1 hj
            simp at hj1 hj2
            subst hj2
            exact ⟨hj1, rfl⟩
          have hcl : ∀ i, i < len → (CX i).2.length = P.cellsOf e := fun i hi => by
            obtain ⟨h1, h2, _⟩ := hCX i hi
            rw [h2]; exact (World.cells?_some h1).2.1
          have hmem : ∀ y ∈ ys, ∃ i, i < len ∧ y = mkEl (CX i).2 := fun y hy => by
            obtain ⟨i, hi⟩ := List.getElem?_of_mem hy
            exact ⟨i, hyg i y hi⟩
          have hflat : ∀ y ∈ ys, Flat (P.cellsOf e) y := fun y hy => by
            obtain ⟨i, hi, rfl⟩ := hmem y hy
            obtain ⟨_, _, _, h4, _⟩ := hCX i hi
            unfold Flat
            rw [mkEl_cells h4]
            exact ⟨hcl i hi, h4⟩
          refine ⟨[.list (P.cellsOf e) ys], rfl, one _ _ ?_, by simp [T.one], ⟨ys, rfl, ?_, fun y hy => ⟨hflat y hy, ?_, ?_⟩⟩, fun hsm m' ys' hys => ?_⟩
          · rw [← hyl]
            refine .list _ ys (some a) cap (fun i j => ((CX i).1[j]?).getD .nilFunc) (by omega) (fun hne => ?_) hflat (fun i x hx j c hc => ?_)
            · by_cases hc0 : P.cellsOf e = 0
              · exact absurd hc0 hpos0
              · have hpos : 0 < len := by rw [← hyl]; exact List.length_pos_iff.2 hne
                obtain ⟨h1, _⟩ := hCX 0 hpos
                have h2 := (World.cells?_some h1).2.2 0 (by omega)
                have hl0 := (World.cells?_some h1).2.1
                rw [List.getElem?_eq_getElem (by omega)] at h2
                have hsp := cell?_spot h2
                have e0 : (a.add (0 * P.cellsOf e)).add 0 = a := by simp [Addr.add]
                rw [e0] at hsp
                refine ⟨a.block, a.off, by obtain ⟨b, o, sp⟩ := a; simp only at hsp; rw [hsp.1], fun i j hi hj => ?_⟩
                obtain ⟨h1, _⟩ := hCX i (by omega)
                have h2 := (World.cells?_some h1).2.2 j hj
                have hl0 := (World.cells?_some h1).2.1
                rw [add_off hsp.1, add_off rfl] at h2
                refine ⟨hsp.2, ?_⟩
                rw [h2, List.getElem?_eq_getElem (by omega)]
                rfl
            · obtain ⟨hi, rfl⟩ := hyg i x hx
              obtain ⟨h1, h2, h3, h4, _⟩ := hCX i hi
              rw [mkEl_cells h4] at hc
              have hj : j < (CX i).1.length := by rw [← h2]; exact (List.getElem?_eq_some_iff.1 hc).1
              refine h3 j c _ hc ?_
              rw [List.getElem?_eq_getElem hj]; rfl
          · have : reachBytes = 140737488351232 := rfl
            rw [this] at hw1
            simp only [List.length_map, List.length_range] at hw1
            rw [hyl]
            exact Nat.le_trans (Nat.mul_le_mul_right _ (Nat.le_add_right _ _)) hw1
          · obtain ⟨i, hi, rfl⟩ := hmem y hy
            obtain ⟨_, _, _, h4, h5, _⟩ := hCX i hi
            rw [mkEl_cells h4]; exact h5
          · obtain ⟨i, hi, rfl⟩ := hmem y hy
            obtain ⟨_, _, _, h4, h5⟩ := hCX i hi
            rw [mkEl_cells h4]
          · cases hys
            have h1 := Nat.le_trans ((hbk hsm).sl _ _).1 (hB hsm)
            simp only [List.length_map, List.length_range] at h1
            refine ⟨by rw [hyl]; exact h1, fun y hy => ?_⟩
            obtain ⟨i, hi, rfl⟩ := hmem y hy
            obtain ⟨_, _, _, h4, _, h6⟩ := hCX i hi
            rw [mkEl_cells h4]; exact h6 hsm
      · cases hsh
    · rename_i fs hf
      split at hsh
      · rename_i s hs
        cases hsh
        obtain ⟨ys, n', rfl, hx, hlen, hyl, hfld⟩ := DataW.trod_struct hf h
        cases hx
        simp only [DataW.weights, hf] at hw
        obtain ⟨xs, g1, g2, g3, g4, g5⟩ := flds_rel (tot := P.cellsOf t) (cs := cs) hlen (n := n') ih fs.toList 0 s ys hs (by simpa using hyl) (fun i f hf => hfld i f (by simpa using hf)) hw (fun hsm y hy => Nat.le_trans ((hbk hsm).agg _ _ (List.mem_map.2 ⟨y, hy, rfl⟩)) (hB hsm))
        exact ⟨xs, by simpa using g1, by simpa using g2, g3, g4, g5⟩
      · cases hsh
    · cases hsh

def FitsV : Sh → T → Prop
  | .st e, x => ∃ xs, x = .agg xs ∧ Fits e xs
  | sh, x => Fits sh [x]
def SmallV (B : Nat) : Sh → T → Prop
  | .st e, x => ∀ xs, x = .agg xs → SmallF B e xs
  | sh, x => SmallF B sh [x]
def SmallAll (B : Nat) : List Sh → List T → Prop
  | [], _ => True
  | s :: ss, xs => ∀ x r, xs = x :: r → SmallV B s x ∧ SmallAll B ss r
def FitsAll : List Sh → List T → Prop
  | [], xs => xs = []
  | s :: ss, xs => ∃ x r, xs = x :: r ∧ FitsV s x ∧ FitsAll ss r
def shsOf (P : Program) : List TypeId → Option (List Sh)
  | [] => some []
  | t :: ts => match shOf P 20 t with
    | some s => match shsOf P ts with
      | some r => some (s :: r)
      | none => none
    | none => none
theorem cells_single {v c : Value} (h : v.cells.toList = [c]) (hv : ∀ a, v ≠ .agg a) : v = c := by
  cases v <;> first | (exact absurd rfl (hv _)) | (simp [Value.cells] at h; exact h)
theorem arg_rel (hbk : sm → BkOk bk) {r : Reach} {b0 : Nat} {n : Nat} {t : TypeId} {sh : Sh} (hsh : shOf P (n + 1) t = some sh) {v : Value} {d : DataW H} {ps : List MemPlace} (hval : Value.okWide P w r b0 t v) (hd : DataW.Trod enc P w base spare held t v d ps)
    (hw : (d.weights P t).all (· ≤ reachBytes) = true) (hB : sm → bk d ≤ B) : ∃ x, RelT (InW w) w x v ∧ FitsV sh x ∧ (sm → SmallV B sh x) := by
  obtain ⟨fuel, hd⟩ := hd
  obtain ⟨xs, h1, h2, h3, h4, h5⟩ := trod_rel hbk (n + 1) t sh hsh fuel _ _ _ hd hw hB
  by_cases ha : ∃ arr, v = .agg arr
  · obtain ⟨arr, rfl⟩ := ha
    have hs : ∃ fs, P.underlying t = some (.struct fs) := by
      unfold Value.okWide at hval
      simp only [shOf] at hsh
      split at hsh
      · rename_i e; simp [e, Cell.okWide, Cell.ok] at hval
      · rename_i e; simp [e, Cell.okWide, Cell.ok] at hval
      · rename_i e; simp [e, Cell.okWide, Cell.ok] at hval
      · rename_i e; simp [e, Cell.okWide, Cell.ok] at hval
      · rename_i e; exact ⟨_, e⟩
      · cases hsh
    obtain ⟨fs, hs⟩ := hs
    have : ∃ e, sh = .st e := by
      simp only [shOf, hs] at hsh
      split at hsh
      · cases hsh; exact ⟨_, rfl⟩
      · cases hsh
    obtain ⟨e, rfl⟩ := this
    refine ⟨.agg xs, .agg xs arr ?_ ?_, ⟨xs, rfl, h4⟩, fun hsm xs' hxs => (by cases hxs; exact h5 hsm)⟩
    · simpa [Value.cells] using h1.symm
    · intro i c u hc hu; exact h2 i c u hc (by simpa [Value.cells] using hu)
  · have hv : ∀ a, v ≠ .agg a := fun a e => ha ⟨a, e⟩
    have hc : ∃ c, v.cells.toList = [c] := by
      cases v <;> first | (exact absurd rfl (hv _)) | exact ⟨_, rfl⟩
    obtain ⟨c, hc⟩ := hc
    obtain rfl := cells_single hc hv
    rw [hc] at h1 h2
    obtain ⟨x, rfl⟩ : ∃ x, xs = [x] := by
      cases xs with
      | nil => simp at h1
      | cons x xs => cases xs with
        | nil => exact ⟨x, rfl⟩
        | cons y xs => simp at h1
    refine ⟨x, h2 0 x v rfl rfl, ?_⟩
    cases sh with
    | st e =>
      exfalso
      have hs : ∃ fs, P.underlying t = some (.struct fs) := by
        simp only [shOf] at hsh
        split at hsh
        · cases hsh
        · cases hsh
        · cases hsh
        · split at hsh
          · cases hsh
          · split at hsh <;> cases hsh
        · rename_i e; exact ⟨_, e⟩
        · cases hsh
      obtain ⟨fs, hs⟩ := hs
      unfold Value.okWide at hval
      rw [hs] at hval
      obtain ⟨cs, e, _⟩ := hval
      exact hv _ e
    | _ => exact ⟨h4, h5⟩
theorem args_rel (hbk : sm → BkOk bk) {r : Reach} {b0 : Nat} : ∀ {ts : List TypeId} {shs : List Sh} {vs : List Value} {ds : List (DataW H)} {ps : List MemPlace}, shsOf P ts = some shs → (∀ (j : Nat) t v, ts[j]? = some t → vs[j]? = some v → Value.okWide P w r b0 t v) →
    DataW.TrodAll enc P w base spare held ts vs ds ps → (DataW.weightsEach P ts ds).all (· ≤ reachBytes) = true → (sm → ∀ d ∈ ds, bk d ≤ B) →
    ∃ xs : List T, xs.length = vs.length ∧ (∀ (i : Nat) (x : T) (v : Value), xs[i]? = some x → vs[i]? = some v → RelT (InW w) w x v) ∧ FitsAll shs xs ∧ (sm → SmallAll B shs xs)
  | [], shs, vs, ds, ps, h, hval, hd, hw, hB => by
    cases h
    cases vs with
    | nil => exact ⟨[], rfl, fun i x v h => by simp at h, rfl, fun _ => trivial⟩
    | cons v vs => simp [DataW.TrodAll] at hd
  | t :: ts, shs, vs, ds, ps, h, hval, hd, hw, hB => by
    simp only [shsOf] at h
    split at h
    · rename_i s hs
      split at h
      · rename_i ss hss
        cases h
        cases vs with
        | nil => simp [DataW.TrodAll] at hd
        | cons v vs => cases ds with
          | nil => simp [DataW.TrodAll] at hd
          | cons d ds =>
            obtain ⟨p, q, h1, h2, rfl⟩ := hd
            simp only [DataW.weightsEach, List.all_append, Bool.and_eq_true] at hw
            obtain ⟨x, g1, g2, g3⟩ := arg_rel hbk (n := 19) hs (hval 0 t v rfl rfl) h1 hw.1 (fun h => hB h d (by simp))
            obtain ⟨xs, k1, k2, k3, k4⟩ := args_rel hbk hss (fun j t' v' ht hv => hval (j + 1) t' v' (by simpa using ht) (by simpa using hv)) h2 hw.2 (fun h d' hd' => hB h d' (List.mem_cons_of_mem _ hd'))
            refine ⟨x :: xs, by simp [k1], fun i y u hy hu => ?_, ⟨x, xs, rfl, g2, k3⟩, fun hsm x' r' hx' => (by cases hx'; exact ⟨g3 hsm, k4 hsm⟩)⟩
            cases i with
            | zero => simp at hy hu; subst hy hu; exact g1
            | succ i => exact k2 i y u (by simpa using hy) (by simpa using hu)
      · cases h
    · cases h
theorem law_callsU (hbk : sm → BkOk bk) {f : Func} {n : FuncId} {s : ChangeSpec} {gl : Nat → Option (List T)} {shs : List Sh} {tb : TypeId} (hsh : shsOf P f.params.toList = some shs) (hok : ∀ xs, FitsAll shs xs → (sm → SmallAll B shs xs) → FnOk P gl n xs (.bool true)) {W : World} (hgl : GlOk gl (InW W) W)
    (hl : laidOutB P = true) (hp : f.params.toList.all (fun t => P.readableRec t && decide (t < P.types.size)) = true) (hrt : f.resultTypes = #[tb]) (htb : P.underlying tb = some .bool) (hv : s.vars = [])
    (hs : ∀ ds : List (DataW H), ds.length = f.params.size → (s.fn H ds).results = [.lit (.bool true)] ∧ (s.fn H ds).args = ds ∧ (s.fn H ds).vars = [])
    {args : Array Value} {ds gs : List (DataW H)} {before : List MemPlace} {b0 : Nat}
    (hval : ∀ (j : Nat) t v, f.params[j]? = some t → args[j]? = some v → Value.okWide P W .any b0 t v) (hW : DataW.Whole enc P f.params.toList s.vars false W args.toList ds gs before)
    {us : List TypeId} (hwt : (DataW.weightsEach P (f.params.toList ++ us) (ds ++ gs)).all (· ≤ reachBytes) = true) (hB : sm → ∀ d ∈ ds, bk d ≤ B) :
    Calls P n args W fun e W' => ∃ v, e = .returned v ∧ s.post enc P f false true false false W args v W' := by
  have hW' := hW
  obtain ⟨p, q, hA, hV, rfl, hfz, hnd⟩ := hW
  rw [hv] at hV
  have hgs : gs = [] ∧ q = [] := by cases gs <;> simp [DataW.TrodVars] at hV <;> simp [hV]
  obtain ⟨rfl, rfl⟩ := hgs
  have hdl : ds.length = f.params.size := by have := trodAll_places hA; simp at this; omega
  have hwt' : (DataW.weightsEach P f.params.toList ds).all (· ≤ reachBytes) = true := by
    have hlen := (trodAll_places hA)
    have key : ∀ (ts us : List TypeId) (ds : List (DataW H)), ts.length = ds.length → DataW.weightsEach P (ts ++ us) ds = DataW.weightsEach P ts ds := by
      intro ts
      induction ts with
      | nil => intro us ds h; cases ds with
        | nil => cases us <;> rfl
        | cons d ds => simp at h
      | cons t ts ih => intro us ds h; cases ds with
        | nil => simp at h
        | cons d ds => simp only [List.cons_append, DataW.weightsEach]; rw [ih us ds (by simpa using h)]
    rw [List.append_nil, key _ _ _ (by omega)] at hwt
    exact hwt
  obtain ⟨xs, h1, h2, h3, h4⟩ := args_rel hbk hsh (fun j t v ht hv => hval j t v (by simpa using ht) (by simpa using hv)) hA hwt' hB
  refine ((hok xs h3 h4).2 (InW W) W args (fun b o h => h) hgl (by simpa using h1.symm) (fun i c u hc hu => h2 i c u hc (by simpa using hu))).mono fun e W' ⟨v, he, hr, hb⟩ => ?_
  subst he
  obtain rfl := RelT.bool_of hr
  refine ⟨_, rfl, post_true hW' hb hl (fun t ht => ?_) hrt htb hv (by rw [List.append_nil]; exact (hs ds hdl).1) (by rw [List.append_nil]; exact (hs ds hdl).2.1) (by rw [List.append_nil]; exact (hs ds hdl).2.2)⟩
  have := List.all_eq_true.1 hp t ht
  simpa using this
theorem law_calls {f : Func} {n : FuncId} {s : ChangeSpec} {gl : Nat → Option (List T)} {shs : List Sh} {tb : TypeId} (hsh : shsOf P f.params.toList = some shs) (hok : ∀ xs, FitsAll shs xs → FnOk P gl n xs (.bool true)) {W : World} (hgl : GlOk gl (InW W) W)
    (hl : laidOutB P = true) (hp : f.params.toList.all (fun t => P.readableRec t && decide (t < P.types.size)) = true) (hrt : f.resultTypes = #[tb]) (htb : P.underlying tb = some .bool) (hv : s.vars = [])
    (hs : ∀ ds : List (DataW H), ds.length = f.params.size → (s.fn H ds).results = [.lit (.bool true)] ∧ (s.fn H ds).args = ds ∧ (s.fn H ds).vars = [])
    {args : Array Value} {ds gs : List (DataW H)} {before : List MemPlace} {b0 : Nat}
    (hval : ∀ (j : Nat) t v, f.params[j]? = some t → args[j]? = some v → Value.okWide P W .any b0 t v) (hW : DataW.Whole enc P f.params.toList s.vars false W args.toList ds gs before)
    {us : List TypeId} (hwt : (DataW.weightsEach P (f.params.toList ++ us) (ds ++ gs)).all (· ≤ reachBytes) = true) :
    Calls P n args W fun e W' => ∃ v, e = .returned v ∧ s.post enc P f false true false false W args v W' :=
  law_callsU (bk := fun _ => 0) (B := 0) (sm := False) (fun h => h.elim) hsh (fun xs h _ => hok xs h) hgl hl hp hrt htb hv hs hval hW hwt (fun h => h.elim)
end
end Go.Nx
end
section
set_option linter.unusedVariables false
namespace Go.Nx
open Go.RowKit

theorem fits_fs1 {e r : Sh} {xs : List T} (h : Fits (.fs 1 e r) xs) : ∃ x xs', xs = x :: xs' ∧ Fits e [x] ∧ Fits r xs' := by
  obtain ⟨h1, h2, h3⟩ := h
  cases xs with
  | nil => simp at h1
  | cons x xs => exact ⟨x, xs, rfl, by simpa using h2, by simpa using h3⟩
theorem fits_fs {n : Nat} {e r : Sh} {xs : List T} (h : Fits (.fs n e r) xs) : ∃ a b, xs = a ++ b ∧ a.length = n ∧ Fits e a ∧ Fits r b := by
  obtain ⟨h1, h2, h3⟩ := h
  exact ⟨xs.take n, xs.drop n, (List.take_append_drop n xs).symm, by simp; omega, h2, h3⟩
theorem fits_nums {k : IntKind} {ys : List T} (h : ∀ y ∈ ys, Flat 1 y ∧ Fits (.int k) y.cells ∧ y = mkEl y.cells) : ∃ l : List Int, ys = l.map (T.int k) ∧ ∀ n ∈ l, (Lit.int k n).wf = true := by
  induction ys with
  | nil => exact ⟨[], rfl, by simp⟩
  | cons y ys ih =>
    obtain ⟨l, h1, h2⟩ := ih fun z hz => h z (by simp [hz])
    obtain ⟨_, ⟨n, hn, hw⟩, he⟩ := h y (by simp)
    rw [hn] at he
    exact ⟨n :: l, by rw [h1, he]; rfl, fun m hm => by
      rcases List.mem_cons.1 hm with rfl | hm
      · exact hw
      · exact h2 m hm⟩
theorem fits_us {ys : List T} (h : ∀ y ∈ ys, Flat 1 y ∧ Fits (.int .u64) y.cells ∧ y = mkEl y.cells) : ∃ l : List Int, ys = us l ∧ ∀ n ∈ l, R64 n := by
  obtain ⟨l, h1, h2⟩ := fits_nums h
  exact ⟨l, h1, fun n hn => wf_u64 (h2 n hn)⟩
theorem fits_is {ys : List T} (h : ∀ y ∈ ys, Flat 1 y ∧ Fits (.int .i64) y.cells ∧ y = mkEl y.cells) : ∃ l : List Int, ys = is l ∧ ∀ n ∈ l, I64 n := by
  obtain ⟨l, h1, h2⟩ := fits_nums h
  exact ⟨l, h1, fun n hn => wf_i64 (h2 n hn)⟩
theorem fits_bs {ys : List T} (h : ∀ y ∈ ys, Flat 1 y ∧ Fits (.int .u8) y.cells ∧ y = mkEl y.cells) : ∃ l : List Int, ys = bs l ∧ ∀ n ∈ l, R8 n := by
  obtain ⟨l, h1, h2⟩ := fits_nums h
  exact ⟨l, h1, fun n hn => wf_u8 (h2 n hn)⟩
theorem glOk_none {S : Cells} {W : World} : GlOk (fun _ => none) S W := fun g cs h => by cases h
end Go.Nx
end
section
set_option linter.unusedVariables false
namespace Go.Nx
open Go.RowKit Go.ChangeShapes Go.WideShapes Go.Lib Go.Joins Go.Deep Go.WideElems Go.Maps

section
variable {H : Type} {enc : TypeId × Value → H} {P : Program} {w : World} {base : Nat} {spare : Nat → Bool} {held : Bool}
theorem cells_of_ints {fuel : Nat} {t e : TypeId} {n : Nat} {k : IntKind} {cs : List Value} {zs : List Int} {p : List MemPlace}
    (ht : P.underlying t = some (.array n e)) (he : P.underlying e = some (.int k)) (hce : P.cellsOf e = 1) (hct : P.cellsOf t = n)
    (h : DataW.trod enc P w base spare held fuel t cs = some (.agg (zs.map fun z => .lit (.int k z)), p)) : cs = zs.map fun z => Value.int k z := by
  cases fuel with
  | zero => simp [DataW.trod] at h
  | succ fuel =>
    simp only [DataW.trod, ht, hce, hct, Nat.mul_one] at h
    split at h
    · rename_i hl
      obtain ⟨xs, hm, hx⟩ := Option.map_eq_some_iff.1 h
      have hxs : xs.map (·.1) = zs.map fun z => (DataW.lit (.int k z) : DataW H) := by
        have := congrArg Prod.fst hx
        simpa using this
      have hxl : xs.length = n := by simpa using mapM_length hm
      have hzl : zs.length = n := by
        have := congrArg List.length hxs
        simp at this
        omega
      apply List.ext_getElem?
      intro i
      by_cases hi : i < n
      · obtain ⟨b, hb, hf⟩ := mapM_at hm i i (by simp [hi])
        obtain ⟨z, hc, rfl, _⟩ := DataW.trod_int he hf
        have h1 : cs[i]? = some (.int k z) := by
          have := congrArg (·[0]?) hc
          simpa [List.getElem?_take, List.getElem?_drop] using this
        have h2 : (xs.map (·.1))[i]? = some (DataW.lit (.int k z) : DataW H) := by simp [hb]
        rw [hxs] at h2
        simp only [List.getElem?_map, Option.map_eq_some_iff, DataW.lit.injEq, Lit.int.injEq] at h2
        obtain ⟨z', hz', _, rfl⟩ := h2
        simp [h1, hz']
      · rw [List.getElem?_eq_none (by omega), List.getElem?_eq_none (by simp; omega)]
    · cases h
theorem ints_of_head {W : World} {name : String} {k : IntKind} {zs : List Int} {rest : List (String × DataW Unit)} {g : Nat} {t e : TypeId} {n : Nat}
    (hg : P.globalNamed name = some g) (hty : (P.globals[g]?).map (·.type) = some t) (ht : P.underlying t = some (.array n e)) (he : P.underlying e = some (.int k)) (hce : P.cellsOf e = 1) (hct : P.cellsOf t = n)
    (h : laidMet P ((name, .agg (zs.map fun z => .lit (.int k z))) :: rest) W) (i : Nat) (hi : i < zs.length) : W.cell? ⟨g, i, none⟩ = some (.int k zs[i]) := by
  obtain ⟨ps, ⟨g', t', cs, fuel, p, q, hg', ht', hvar, hd, _, _⟩, _⟩ := h
  obtain rfl := Option.some.inj (hg.symm.trans hg')
  obtain rfl := Option.some.inj (hty.symm.trans ht')
  have e := cells_of_ints ht he hce hct hd
  have := World.var?_cell hg hvar i
  rw [this]
  have e2 : cs[i]? = cs.toList[i]? := by simp
  rw [e2, e]
  simp [hi]
theorem glOk_ints {W : World} {g0 : Nat} {k : IntKind} {zs : List Int} (h : ∀ (i : Nat) (hi : i < zs.length), W.cell? ⟨g0, i, none⟩ = some (.int k zs[i])) {gl : Nat → Option (List T)} (hgl : ∀ g cs, gl g = some cs → g = g0 ∧ cs = zs.map (T.int k)) : GlOk gl (InW W) W := by
  intro g cs hg i c hc
  obtain ⟨rfl, rfl⟩ := hgl g cs hg
  rw [List.getElem?_map] at hc
  cases hz : zs[i]? with
  | none => rw [hz] at hc; cases hc
  | some z =>
    rw [hz] at hc
    simp at hc; subst hc
    obtain ⟨hi, rfl⟩ := List.getElem?_eq_some_iff.1 hz
    exact ⟨cell_lt (h i hi), _, h i hi, .int _ _⟩
end
theorem fits_rs {ys : List T} (h : ∀ y ∈ ys, Flat 1 y ∧ Fits (.sl 1 8 (.int .i64)) y.cells ∧ y = mkEl y.cells) : ∃ L : List (List Int), ys = L.map (fun l => T.list 1 (is l)) ∧ ∀ l ∈ L, l.length * 8 ≤ 140737488351232 ∧ ∀ n ∈ l, I64 n := by
  induction ys with
  | nil => exact ⟨[], rfl, by simp⟩
  | cons y ys ih =>
    obtain ⟨L, h1, h2⟩ := ih fun z hz => h z (by simp [hz])
    obtain ⟨_, ⟨zs, hz, hb, hf⟩, he⟩ := h y (by simp)
    obtain ⟨l, rfl, hl⟩ := fits_is hf
    rw [hz] at he
    refine ⟨l :: L, by rw [h1, he]; rfl, fun l' hl' => ?_⟩
    rcases List.mem_cons.1 hl' with rfl | hl'
    · exact ⟨by rw [is_len] at hb; exact hb, hl⟩
    · exact h2 l' hl'
end Go.Nx
end
