/-
  A part of the machine, and of what is walked.
-/
import Derived.Test.YtdfjedkpclebgaaDoorP12
import Derived.Shelf.Strings.SplitCore
import Derived.Lib.SplitLaws
import Derived.Lib.Join
import Derived.Lib.ItoaNum
section
set_option linter.unusedVariables false
set_option linter.unusedSimpArgs false
namespace Go.Nx
open Go Go.RowKit

theorem one_arg {args : Array Value} (h : args.size = 1) {v : Value} (hv : args[0]? = some v) : args = #[v] := by
  apply Array.ext
  · simpa using h
  · intro i h1 h2
    have : i = 0 := by simp at h2; omega
    subst this
    rw [Array.getElem?_eq_getElem (by omega)] at hv
    simpa using hv
theorem two_arg {args : Array Value} (h : args.size = 2) {u v : Value} (hu : args[0]? = some u) (hv : args[1]? = some v) : args = #[u, v] := by
  apply Array.ext
  · simpa using h
  · intro i h1 h2
    match i with
    | 0 => rw [Array.getElem?_eq_getElem (by omega)] at hu; simpa using hu
    | 1 => rw [Array.getElem?_eq_getElem (by omega)] at hv; simpa using hv
    | i + 2 => simp at h2; omega
theorem below_bytes (w : World) (e : TypeId) (t : ByteArray) : Below w.heap.size w (Lib.bytesWorld w e t) :=
  ⟨rfl, rfl, rfl, by rw [Lib.bytesWorld_size]; omega, fun j hj => Lib.bytesWorld_at_old w e t j hj⟩
def ss (l : List (List UInt8)) : List T := l.map fun p => .str ⟨p.toArray⟩
@[simp] theorem ss_len (l : List (List UInt8)) : (ss l).length = l.length := by simp [ss]
def atB (l : List (List UInt8)) (i : Int) : List UInt8 := l.getD i.toNat []
theorem nth_ss {l : List (List UInt8)} {i : Int} {K : T → Prop} (h0 : 0 ≤ i) (h1 : i < l.length) (h : K (.str ⟨(atB l i).toArray⟩)) : nthK (ss l) i K := by
  refine nthK_of _ h0 ?_ h
  unfold ss atB
  rw [List.getElem?_map, List.getD_eq_getElem?_getD, List.getElem?_eq_getElem (by omega)]
  rfl
theorem indexB_one (x : ByteArray) (c : UInt8) : Lib.indexB x ⟨#[c]⟩ = Lib.indexByte x.data.toList c := Lib.index_one _ _
theorem splitB_spl (c : UInt8) (s : ByteArray) : Lib.splitB ⟨#[c]⟩ 0 (Lib.countB s ⟨#[c]⟩) s = (spl c s.data.toList).map fun p => (⟨p.toArray⟩ : ByteArray) := by
  have h := Lib.splitB_data ⟨#[c]⟩ 0 (Lib.countB s ⟨#[c]⟩) s
  have e : Lib.countB s ⟨#[c]⟩ = s.data.toList.count c := Lib.count_one c s.data.toList
  rw [e] at h ⊢
  have h2 : (Lib.splitB ⟨#[c]⟩ 0 (s.data.toList.count c) s).map (fun b => b.data.toList) = spl c s.data.toList := h.trans (splitK_spl c _)
  rw [← h2, List.map_map]
  exact (List.map_id' _).symm
theorem four_arg {args : Array Value} (h : args.size = 4) {u v x y : Value} (hu : args[0]? = some u) (hv : args[1]? = some v) (hx : args[2]? = some x) (hy : args[3]? = some y) : args = #[u, v, x, y] := by
  apply Array.ext
  · simpa using h
  · intro i h1 h2
    match i with
    | 0 => rw [Array.getElem?_eq_getElem (by omega)] at hu; simpa using hu
    | 1 => rw [Array.getElem?_eq_getElem (by omega)] at hv; simpa using hv
    | 2 => rw [Array.getElem?_eq_getElem (by omega)] at hx; simpa using hx
    | 3 => rw [Array.getElem?_eq_getElem (by omega)] at hy; simpa using hy
    | i + 4 => simp at h2; omega
theorem row_new (w : World) (e : TypeId) (vs : List Value) (h : vs.length ≤ maxLen) : (w.alloc (.cells vs.toArray e)).ownsRow w.heap.size e 1 (.slice (some ⟨w.heap.size, 0, none⟩) vs.length vs.length) vs.length vs :=
  ⟨(Nat.mul_one _).symm, .inr ⟨w.heap.size, vs.length, vs.toArray, rfl, Nat.le_refl _, Array.getElem?_push_size, Nat.le_refl _, h, by rw [Nat.mul_one]; exact List.size_toArray, by rw [Nat.mul_one]; exact List.take_of_length_le (Nat.le_refl _)⟩⟩
theorem flat_ss {l : List (List UInt8)} : ∀ x ∈ ss l, Flat 1 x := by
  intro x hx
  unfold ss at hx
  obtain ⟨n, _, rfl⟩ := List.mem_map.1 hx
  exact ⟨rfl, fun c hc => by simp [T.cells] at hc; subst hc; rfl⟩
def sep1 (u : ByteArray) : UInt8 := u.data.toList.headD 0
theorem row_gl {S : Cells} {w w' : World} {e : TypeId} {v : Value} {xs : List T} {us : List Value} (hS : ∀ b o, S b o → b < w.heap.size) (hr : w'.ownsRow w.heap.size e 1 v xs.length us) (hx : ∀ x ∈ xs, Flat 1 x)
    (hu : ∀ (i : Nat) (x : T) (u : Value), xs[i]? = some x → us[i]? = some u → ∀ c ∈ x.cells, ∀ (S' : Cells), (∀ b o, S b o → S' b o) → RelT S' w' c u) :
    ∃ S' : Cells, (∀ b o, S b o → S' b o) ∧ (∀ b o, S' b o → S b o ∨ (w.heap.size ≤ b ∧ b < w'.heap.size)) ∧ RelT S' w' (.list 1 xs) v ∧
      (∀ b o sp n cap, v = .slice (some ⟨b, o, sp⟩) n cap → cap = n ∨ sp = none ∧ (∃ arr e, w'.heap[b]? = some (.cells arr e (0, 0)) ∧ o + cap * 1 ≤ arr.size) ∧ ∀ j, o + n * 1 ≤ j → j < o + cap * 1 → w.heap.size ≤ b ∧ ¬ S' b j) ∧
      (∀ n cap, v = .slice none n cap → cap = 0) := by
  obtain ⟨h1, h2⟩ := hr
  rcases h2 with ⟨rfl, hn⟩ | ⟨g, cap, cur, rfl, hb, hg, hnc, hcm, hcs, htk⟩
  · have : xs = [] := List.eq_nil_of_length_eq_zero hn
    subst this
    refine ⟨S, fun _ _ h => h, fun _ _ h => .inl h, .list 1 [] none 0 (fun _ _ => .nilFunc) (by simp) (fun h => absurd rfl h) (fun x hx => by cases hx) (fun i x hx => by simp at hx), fun b o sp n cap h => (by simp at h), fun n cap h => (by simp at h; omega)⟩
  · have hlt : g < w'.heap.size := (Array.getElem?_eq_some_iff.1 hg).1
    have hcell : ∀ i, i < xs.length → w'.cell? ⟨g, i, none⟩ = us[i]? := fun i hi => by
      rw [← htk, List.getElem?_take, if_pos (by omega)]
      simp [World.cell?, hg]
    refine ⟨fun b o => S b o ∨ (b = g ∧ o < xs.length), fun _ _ h => .inl h, ?_, ?_, ?_, fun n cap h => (by simp at h)⟩
    · rintro b o (h | ⟨rfl, _⟩)
      · exact .inl h
      · exact .inr ⟨hb, hlt⟩
    · refine .list 1 xs (some ⟨g, 0, none⟩) cap (fun i _ => us[i]?.getD .nilFunc) hnc (fun _ => ⟨g, 0, rfl, fun i j hi hj => ?_⟩) hx fun i x hi j c hc => ?_
      · have : 0 + i * 1 + j = i := by omega
        rw [this]
        refine ⟨.inr ⟨rfl, hi⟩, ?_⟩
        rw [hcell i hi]
        have : i < us.length := by omega
        simp [this]
      · have hi' : i < us.length := by have := (List.getElem?_eq_some_iff.1 hi).1; omega
        have e : us[i]? = some us[i] := by simp [hi']
        simp only [e, Option.getD_some]
        exact hu i x _ hi e c (List.mem_of_getElem? hc) _ (fun _ _ h => .inl h)
    · intro b o sp n cap' h
      simp only [Value.slice.injEq, Option.some.injEq, Addr.mk.injEq] at h
      obtain ⟨⟨rfl, rfl, rfl⟩, rfl, rfl⟩ := h
      refine .inr ⟨rfl, ⟨cur, e, hg, by omega⟩, fun j h3 h4 => ⟨hb, fun hc => ?_⟩⟩
      rcases hc with hc | ⟨_, hc⟩
      · have := hS _ _ hc; omega
      · omega
theorem flat_is {l : List Int} : ∀ x ∈ is l, Flat 1 x := by
  intro x hx
  unfold is at hx
  obtain ⟨n, _, rfl⟩ := List.mem_map.1 hx
  exact ⟨rfl, fun c hc => by simp [T.cells] at hc; subst hc; rfl⟩
def dig (o : Int) : ByteArray := ⟨(Lib.decDigits o.toNat).toArray⟩
theorem join_le : ∀ (l : List (List UInt8)) (m : Nat), (∀ x ∈ l, x.length ≤ m) → (Lib.join l [44]).length ≤ l.length * (m + 1)
  | [], m, _ => by simp [Lib.join]
  | [x], m, h => by have := h x (by simp); simp [Lib.join]; omega
  | x :: y :: r, m, h => by
    have h1 := join_le (y :: r) m fun z hz => h z (by simp [hz])
    have h2 := h x (by simp)
    simp [Lib.join] at h1 ⊢
    rw [Nat.succ_mul]
    omega
theorem dig_len {o : Int} (h : 0 ≤ o ∧ o ≤ 64) : (dig o).data.toList.length ≤ 2 := by
  obtain ⟨k, rfl⟩ : ∃ k : Nat, o = k := ⟨o.toNat, by omega⟩
  have : ∀ k : Nat, k < 65 → (dig (k : Int)).data.toList.length ≤ 2 := by decide +kernel
  exact this k (by omega)
theorem eqS_iff {a b : ByteArray} : eqS a b = true ↔ a = b := by
  rw [eqS_def, beq_iff_eq, ByteArray.toList_eq, ByteArray.toList_eq]
  constructor
  · intro e
    obtain ⟨a⟩ := a
    obtain ⟨b⟩ := b
    congr 1
    exact Array.toList_inj.1 e
  · intro e; rw [e]
theorem spl_piece (c : UInt8) : ∀ {l p : List UInt8}, p ∈ spl c l → p.length ≤ l.length
  | [], p, h => by simp [spl] at h; subst h; simp
  | b :: l, p, h => by
    by_cases hb : b = c
    · rw [spl, if_pos hb] at h
      rcases List.mem_cons.1 h with rfl | h
      · simp
      · have := spl_piece c (l := l) h; simp; omega
    · rw [spl, if_neg hb] at h
      rcases List.mem_cons.1 h with rfl | h
      · have := spl_piece c (l := l) (p := (spl c l).headD []) (by rw [← spl_head_tail c l]; simp)
        rw [List.length_cons, List.length_cons]; omega
      · have := spl_piece c (l := l) (List.mem_of_mem_tail h); simp; omega
theorem atB_len {c : UInt8} {l : List UInt8} {k : Nat} (h : k < (spl c l).length) : (atB (spl c l) (k : Int)).length ≤ l.length := by
  refine spl_piece c ?_
  unfold atB
  rw [Int.toNat_natCast, List.getD_eq_getElem?_getD, List.getElem?_eq_getElem h]
  exact List.getElem_mem h
def rs (L : List (List Int)) : List T := L.map fun l => .list 1 (is l)
def rowsOf (xs : List T) : List (List Int) := xs.map fun
  | .list _ ys => nums ys
  | _ => []
@[simp] theorem rowsOf_rs (L : List (List Int)) : rowsOf (rs L) = L := by simp [rowsOf, rs, Function.comp_def]
@[simp] theorem rs_len (L : List (List Int)) : (rs L).length = L.length := by simp [rs]
def row (L : List (List Int)) (o : Int) : List Int := L[(o - 1).toNat]?.getD []
theorem row_mem {L : List (List Int)} {o : Int} (h : 1 ≤ o) (h' : o ≤ L.length) : row L o ∈ L := by
  unfold row
  have : (o - 1).toNat < L.length := by omega
  rw [List.getElem?_eq_getElem this]; simp
theorem nth_rs {L : List (List Int)} {i : Int} {K : T → Prop} (h0 : 0 ≤ i) (h1 : i < L.length) (h : K (.list 1 (is (row L (i + 1))))) : nthK (rs L) i K := by
  refine nthK_of (.list 1 (is (row L (i + 1)))) h0 ?_ h
  have : i.toNat < L.length := by omega
  have e : (i + 1 - 1).toNat = i.toNat := by omega
  simp [rs, row, e, this]

end Go.Nx
end
