/-
  WHAT CAN BE REACHED: the document's way; how far at most.
-/
import Derived.Test.YtlgnjeilhjhnkaaDoorRm
set_option linter.unusedVariables false
namespace Go.Nx
open Go.RowKit
open Classical

def rs (L : List (List Int)) : List T := L.map fun l => .list 1 (is l)
def rowsOf (xs : List T) : List (List Int) := xs.map fun
  | .list _ ys => nums ys
  | _ => []
@[simp] theorem rowsOf_rs (L : List (List Int)) : rowsOf (rs L) = L := by simp [rowsOf, rs, Function.comp_def]
@[simp] theorem rs_len (L : List (List Int)) : (rs L).length = L.length := by simp [rs]
def Sz (xs : List T) : Prop := xs.length * 8 ≤ maxBytes
def IsR (xs : List T) : Prop := ∃ L, xs = rs L ∧ L.length ≤ 9223372036854775807 ∧ ∀ l ∈ L, (IsI (is l) ∧ Sz (is l))
theorem row_mem {L : List (List Int)} {o : Int} (h : 1 ≤ o) (h' : o ≤ L.length) : row L o ∈ L := by
  unfold row
  have : (o - 1).toNat < L.length := by omega
  rw [List.getElem?_eq_getElem this]; simp
theorem nth_rs {L : List (List Int)} {i : Int} {K : T → Prop} (h0 : 0 ≤ i) (h1 : i < L.length) (h : K (.list 1 (is (row L (i + 1))))) : nthK (rs L) i K := by
  refine nthK_of (.list 1 (is (row L (i + 1)))) h0 ?_ h
  have : i.toNat < L.length := by omega
  have e : (i + 1 - 1).toNat = i.toNat := by omega
  simp [rs, row, e, this]

/-! ### the document's step -/
def nextL (L : List (List Int)) (l : List Int) : B := l.foldl (fun acc o => acc ||| (ofL (row L o) &&& own L)) 0
theorem nextL_snoc (L : List (List Int)) (l : List Int) (o : Int) : nextL L (l ++ [o]) = nextL L l ||| (ofL (row L o) &&& own L) := by simp [nextL]
theorem nextL_take (L : List (List Int)) {l : List Int} {k : Nat} (h : k < l.length) : nextL L (l.take (k + 1)) = nextL L (l.take k) ||| (ofL (row L (at0 l k)) &&& own L) := by
  have e : l[k]? = some (at0 l k) := by simp [at0, h]
  rw [List.take_add_one, e]
  exact nextL_snoc _ _ _
theorem has_nextL (L : List (List Int)) (l : List Int) (v : Int) : has (nextL L l) v = true ↔ ∃ o ∈ l, edge L o v := by
  refine snoc_ind (Q := fun l => has (nextL L l) v = true ↔ ∃ o ∈ l, edge L o v) ?_ ?_ l
  · have : has (nextL L []) v = false := has_zero v
    rw [this]; simp
  · intro l x ih
    rw [nextL_snoc, has_or, Bool.or_eq_true, ih, has_and, has_ofL, Bool.and_eq_true, Bool.and_eq_true, decide_eq_true_eq]
    constructor
    · rintro (⟨o, h1, h2⟩ | ⟨⟨h1, h2⟩, h3⟩)
      · exact ⟨o, by simp [h1], h2⟩
      · exact ⟨x, by simp, h2, h3⟩
    · rintro ⟨o, h1, h2⟩
      rcases List.mem_append.1 h1 with h1 | h1
      · exact .inl ⟨o, h1, h2⟩
      · rw [List.mem_singleton] at h1; subst h1
        exact .inr ⟨⟨own_obj h2.2, h2.1⟩, h2.2⟩
def nextB (L : List (List Int)) (s : B) : B := nextL L (lsL s)
theorem has_nextB (L : List (List Int)) (s : B) (v : Int) : has (nextB L s) v = true ↔ ∃ o, has s o = true ∧ edge L o v := by
  unfold nextB; rw [has_nextL]; simp only [mem_lsL]

/-- what is reached hangs on what is open, and at the start, among the heap's objects alone -/
theorem lev_congr {L : List (List Int)} {op op' : Int → Bool} {s s' : B} (h1 : ∀ o, has (own L) o = true → op o = op' o) (h2 : ∀ o, has (own L) o = true → has s o = has s' o) : ∀ {k : Nat} {v : Int}, Lev L op s k v → Lev L op' s' k v
  | 0, v, h => ⟨by rw [← h2 v h.2]; exact h.1, h.2⟩
  | k + 1, v, ⟨o, a, b, c⟩ => ⟨o, lev_congr h1 h2 a, by rw [← h1 o (lev_own a)]; exact b, c⟩
theorem rchB_congr {L : List (List Int)} {op op' : Int → Bool} {s s' : B} (h1 : ∀ o, has (own L) o = true → op o = op' o) (h2 : ∀ o, has (own L) o = true → has s o = has s' o) : rchB L op s = rchB L op' s' := by
  apply ext_has
  intro v _ _
  rw [Bool.eq_iff_iff, has_rchB, has_rchB]
  exact ⟨fun ⟨k, h⟩ => ⟨k, lev_congr h1 h2 h⟩, fun ⟨k, h⟩ => ⟨k, lev_congr (fun o ho => (h1 o ho).symm) (fun o ho => (h2 o ho).symm) h⟩⟩
structure VInv (L : List (List Int)) (op : Int → Bool) (s x : B) : Prop where
  snd : ∀ v, has x v = true → Rch L op s v
  root : ∀ v, has s v = true → has (own L) v = true → has x v = true
theorem VInv.init (L : List (List Int)) (op : Int → Bool) (s : B) : VInv L op s (s &&& own L) :=
  ⟨fun v h => by rw [has_and, Bool.and_eq_true] at h; exact rch_root h.1 h.2, fun v h h' => by rw [has_and, h, h']; rfl⟩
theorem VInv.step {L : List (List Int)} {op : Int → Bool} {s x y : B} (h : VInv L op s x) (hy : ∀ o, has y o = true ↔ has x o = true ∧ op o = true) : VInv L op s (x ||| nextB L y) := by
  refine ⟨fun v hv => ?_, fun v h1 h2 => by rw [has_or, h.root v h1 h2]; rfl⟩
  rw [has_or, Bool.or_eq_true, has_nextB] at hv
  rcases hv with hv | ⟨o, h1, h2⟩
  · exact h.snd v hv
  · have := (hy o).1 h1
    exact rch_step (h.snd o this.1) this.2 h2
theorem VInv.fin {L : List (List Int)} {op : Int → Bool} {s x y : B} (h : VInv L op s x) (hy : ∀ o, has y o = true ↔ has x o = true ∧ op o = true) (he : x ||| nextB L y = x) : x = rchB L op s := by
  apply ext_has
  intro v _ _
  rw [Bool.eq_iff_iff, has_rchB]
  refine ⟨h.snd v, fun hv => ?_⟩
  refine rch_ind (Q := fun v => has x v = true) h.root (fun o u _ h1 h2 h3 => ?_) hv
  rw [← he, has_or, Bool.or_eq_true]
  exact .inr ((has_nextB L y u).2 ⟨o, (hy o).2 ⟨h1, h2⟩, h3⟩)
theorem or_lt {x z : B} (h : (x ||| z == x) = false) : x.toNat < (x ||| z).toNat := by
  have h1 : x.toNat ≤ (x ||| z).toNat := by rw [BitVec.toNat_or]; exact Nat.left_le_or
  have h2 : x.toNat ≠ (x ||| z).toNat := fun e => by
    have : x ||| z = x := BitVec.eq_of_toNat_eq e.symm
    rw [this] at h; simp at h
  omega

/-! ### how far at most -/
theorem mid_ex {L : List (List Int)} {op : Int → Bool} {s : B} {o : Int} : ∀ (n i : Nat) (met wait : List Int), n + i = (row L o).length → WMid L op s o i met wait → ∃ met' wait', WMid L op s o (row L o).length met' wait' ∧ met'.count 0 + wait'.length = met.count 0 + wait.length
  | 0, i, met, wait, hi, h => ⟨met, wait, by rw [← hi, Nat.zero_add]; exact h, rfl⟩
  | n + 1, i, met, wait, hi, h => by
    have hlt : i < (row L o).length := by omega
    have hv : (row L o)[i]? = some (row L o)[i] := by simp [hlt]
    by_cases hh : has (own L) (row L o)[i] = true ∧ mt met (row L o)[i] = 0
    · have g := h.new hv hh.1 hh.2
      obtain ⟨m', w', h1, h2⟩ := mid_ex n (i + 1) _ _ (by omega) g
      refine ⟨m', w', h1, ?_⟩
      have hvo := own_obj hh.1
      have hr := obj_iff.1 hvo
      have hg : met[((row L o)[i] - 1).toNat]? = some 0 := by
        have : ((row L o)[i] - 1).toNat < met.length := by rw [h.inv.len]; omega
        have hz := hh.2
        unfold mt at0 at hz
        rw [List.getElem?_eq_getElem this] at hz ⊢
        simpa using hz
      obtain ⟨r, hr'⟩ := h.ne
      have how := h.inv.wt o (by rw [hr']; simp)
      have := count_set_zero hg (x := mt met o + 1) (by omega)
      rw [h2, List.length_append, List.length_singleton]; omega
    · exact mid_ex n (i + 1) met wait (by omega) (h.old hv fun hw hz => hh ⟨hw, hz⟩)
theorem walk_ex {L : List (List Int)} {op : Int → Bool} {s : B} : ∀ (n : Nat) (met wait : List Int), met.count 0 + wait.length ≤ n → WInv L op s met wait → ∃ met', WInv L op s met' []
  | n, met, [], _, h => ⟨met, h⟩
  | 0, met, o :: r, hn, h => by simp at hn
  | n + 1, met, o :: r, hn, h => by
    cases ho : op o with
    | false => exact walk_ex n met r (by simp at hn; omega) (h.skip ho)
    | true =>
      obtain ⟨m', w', h1, h2⟩ := mid_ex (row L o).length 0 met (o :: r) (by omega) (WMid.start h ho)
      obtain ⟨r', rfl⟩ := h1.ne
      exact walk_ex n m' r' (by simp at h2 hn; omega) (h1.done (Nat.le_refl _))
theorem metF_inv (L : List (List Int)) (op : Int → Bool) (s : B) : WInv L op s (metF L op s) [] := by
  obtain ⟨m, h⟩ := walk_ex _ _ _ (Nat.le_refl _) (WInv.init L op s)
  rw [← h.fin]; exact h
theorem metF_len (L : List (List Int)) (op : Int → Bool) (s : B) : (metF L op s).length = 64 := by simp [metF]
theorem mt_metF (L : List (List Int)) (op : Int → Bool) (s : B) {v : Int} (hv : obj v = true) : mt (metF L op s) v = distI L op s v + 1 := by
  have := obj_iff.1 hv
  have e : ((((v - 1).toNat : Nat) : Int) + 1) = v := by omega
  unfold mt at0 metF
  rw [List.getElem?_map, List.getElem?_range (by omega)]
  simp only [Option.map_some, Option.getD_some, e]
theorem distI_range (L : List (List Int)) (op : Int → Bool) (s : B) (v : Int) : -1 ≤ distI L op s v ∧ (0 ≤ distI L op s v ↔ Rch L op s v) := by
  by_cases h : Rch L op s v
  · obtain ⟨d, h1, _⟩ := distI_yes h
    rw [h1]; exact ⟨by omega, fun _ => h, fun _ => by omega⟩
  · rw [distI_no h]; exact ⟨by omega, fun h' => by omega, fun h' => absurd h' h⟩
theorem count_drop {l : List Int} {n : Nat} (h : ∀ i, n ≤ i → i < l.length → l[i]? = some 0) : l.length ≤ l.count 0 + n := by
  have h1 : (l.drop n).count 0 = (l.drop n).length := by
    rw [List.count_eq_length]
    intro x hx
    obtain ⟨i, hi⟩ := List.mem_iff_getElem?.1 hx
    rw [List.getElem?_drop] at hi
    have hlt := (List.getElem?_eq_some_iff.1 hi).1
    rw [h (n + i) (by omega) hlt] at hi
    simpa using hi
  have h2 : l.count 0 = (l.take n).count 0 + (l.drop n).count 0 := by rw [← List.count_append, List.take_append_drop]
  rw [List.length_drop] at h1
  omega
theorem distI_le (L : List (List Int)) (op : Int → Bool) (s : B) {v : Int} (h : Rch L op s v) : distI L op s v ≤ min L.length 64 := by
  have hi := metF_inv L op s
  have hv := own_obj (rch_own h)
  have h1 := hi.bnd v hv
  rw [mt_metF L op s hv] at h1
  have h2 := count_drop (l := metF L op s) (n := min L.length 64) fun i h1 h2 => by
    rw [metF_len] at h2
    unfold metF
    rw [List.getElem?_map, List.getElem?_range h2, Option.map_some, distI_no fun hr => by
      have := own_le (rch_own hr); omega]
    rfl
  rw [metF_len] at h2
  omega

/-! ### the document's rounds -/
noncomputable def levB (L : List (List Int)) (op : Int → Bool) (s : B) (d : Nat) : B := ofP fun v => ∃ k, k ≤ d ∧ Lev L op s k v
theorem has_levB {L : List (List Int)} {op : Int → Bool} {s : B} {d : Nat} {v : Int} : has (levB L op s d) v = true ↔ ∃ k, k ≤ d ∧ Lev L op s k v := by
  unfold levB; rw [has_ofP]
  exact ⟨fun h => h.2, fun h => ⟨by obtain ⟨k, _, hk⟩ := h; exact own_obj (lev_own hk), h⟩⟩
theorem levB_zero (L : List (List Int)) (op : Int → Bool) (s : B) : levB L op s 0 = s &&& own L := by
  apply ext_has
  intro v _ _
  rw [Bool.eq_iff_iff, has_levB, has_and, Bool.and_eq_true]
  constructor
  · rintro ⟨k, hk, h⟩
    obtain rfl : k = 0 := by omega
    exact h
  · exact fun h => ⟨0, Nat.le_refl _, h⟩
theorem levB_succ (L : List (List Int)) (s : B) (d : Nat) : levB L (fun _ => true) s d ||| nextB L (levB L (fun _ => true) s d) = levB L (fun _ => true) s (d + 1) := by
  apply ext_has
  intro v _ _
  rw [Bool.eq_iff_iff, has_or, Bool.or_eq_true, has_nextB, has_levB, has_levB]
  constructor
  · rintro (⟨k, hk, h⟩ | ⟨o, ho, he⟩)
    · exact ⟨k, by omega, h⟩
    · obtain ⟨k, hk, h⟩ := has_levB.1 ho
      exact ⟨k + 1, by omega, o, h, rfl, he⟩
  · rintro ⟨k, hk, h⟩
    by_cases e : k ≤ d
    · exact .inl ⟨k, e, h⟩
    · obtain rfl : k = d + 1 := by omega
      obtain ⟨o, h1, _, h2⟩ := h
      exact .inr ⟨o, has_levB.2 ⟨d, Nat.le_refl _, h1⟩, h2⟩
/-- how far, where it is nearer than d -/
noncomputable def distT (L : List (List Int)) (s : B) (d : Nat) (v : Int) : Int := if distI L (fun _ => true) s v < d then distI L (fun _ => true) s v else -1
theorem distT_one (L : List (List Int)) (s : B) (v : Int) : distT L s 1 v = if has (s &&& own L) v = true then 0 else -1 := by
  have hl := @has_levB L (fun _ => true) s 0 v
  rw [levB_zero L (fun _ => true) s] at hl
  unfold distT
  have hr := distI_range L (fun _ => true) s v
  by_cases e : Rch L (fun _ => true) s v
  · obtain ⟨d, h1, h2, h3⟩ := distI_yes e
    by_cases h' : has (s &&& own L) v = true
    · obtain ⟨k, hk, hl'⟩ := hl.1 h'
      have := h3 k hl'
      rw [if_pos h', if_pos (by omega)]; omega
    · have : d ≠ 0 := fun e0 => h' (hl.2 ⟨0, Nat.le_refl _, by rw [← e0]; exact h2⟩)
      rw [if_neg h', if_neg (by omega)]
  · have h' : ¬ has (s &&& own L) v = true := fun h => by
      obtain ⟨k, _, hl'⟩ := hl.1 h
      exact e ⟨k, hl'⟩
    rw [if_neg h', distI_no e, if_pos (by omega)]
theorem distT_succ (L : List (List Int)) (s : B) (d : Nat) (v : Int) : distT L s (d + 2) v = if has (nextB L (levB L (fun _ => true) s d)) v = true ∧ distT L s (d + 1) v < 0 then (d : Int) + 1 else distT L s (d + 1) v := by
  have hr := distI_range L (fun _ => true) s v
  have hn : has (nextB L (levB L (fun _ => true) s d)) v = true → ∃ k, k ≤ d + 1 ∧ Lev L (fun _ => true) s k v := by
    rw [has_nextB]
    rintro ⟨o, ho, he⟩
    obtain ⟨k, hk, h⟩ := has_levB.1 ho
    exact ⟨k + 1, by omega, o, h, rfl, he⟩
  have hu : ∀ n : Nat, distT L s n v = if distI L (fun _ => true) s v < n then distI L (fun _ => true) s v else -1 := fun _ => rfl
  by_cases e : Rch L (fun _ => true) s v
  · obtain ⟨c, h1, h2, h3⟩ := distI_yes e
    by_cases c1 : c ≤ d
    · have e1 : distT L s (d + 1) v = c := by rw [hu, if_pos (by omega)]; exact h1
      have e2 : distT L s (d + 2) v = c := by rw [hu, if_pos (by omega)]; exact h1
      rw [e1, e2, if_neg (fun h => by omega)]
    · have e1 : distT L s (d + 1) v = -1 := by rw [hu, if_neg (by omega)]
      rw [e1]
      by_cases c2 : c = d + 1
      · have e2 : distT L s (d + 2) v = c := by rw [hu, if_pos (by omega)]; exact h1
        subst c2
        obtain ⟨o, g1, _, g2⟩ := h2
        rw [e2, if_pos ⟨(has_nextB L _ v).2 ⟨o, has_levB.2 ⟨d, Nat.le_refl _, g1⟩, g2⟩, by omega⟩]
        omega
      · have e2 : distT L s (d + 2) v = -1 := by rw [hu, if_neg (by omega)]
        rw [e2, if_neg]
        rintro ⟨h4, _⟩
        obtain ⟨k, hk, hl⟩ := hn h4
        have := h3 k hl
        omega
  · have hd := distI_no e
    have hn' : ¬ has (nextB L (levB L (fun _ => true) s d)) v = true := fun h => by
      obtain ⟨k, hk, hl⟩ := hn h
      exact e ⟨k, hl⟩
    rw [if_neg (fun h => hn' h.1), hu, hu, hd, if_pos (by omega), if_pos (by omega)]
theorem distT_fin (L : List (List Int)) (s : B) (v : Int) : distT L s (min L.length 64 + 1) v = distI L (fun _ => true) s v := by
  unfold distT
  rw [if_pos]
  by_cases e : Rch L (fun _ => true) s v
  · have := distI_le L (fun _ => true) s e
    omega
  · rw [distI_no e]; omega
def ofM (m : List Int) : B := ofL ((lsL (first 64)).filter fun v => decide (0 < mt m v))
theorem has_ofM (m : List Int) (v : Int) : has (ofM m) v = true ↔ obj v = true ∧ 0 < mt m v := by
  unfold ofM
  rw [has_ofL, Bool.and_eq_true, decide_eq_true_eq, List.mem_filter, mem_lsL, has_first, decide_eq_true_eq]
  constructor
  · rintro ⟨h1, h2, h3⟩; exact ⟨h1, h3⟩
  · rintro ⟨h1, h3⟩
    have := obj_iff.1 h1
    exact ⟨h1, by rw [h1, decide_eq_true this.2]; rfl, h3⟩
theorem ofM_metF (L : List (List Int)) (op : Int → Bool) (s : B) : ofM (metF L op s) = rchB L op s := by
  apply ext_has
  intro v h1 h2
  have hv := obj_t h1 h2
  have hr := distI_range L op s v
  rw [Bool.eq_iff_iff, has_ofM, has_rchB, mt_metF L op s hv, ← hr.2]
  constructor
  · rintro ⟨_, h⟩; omega
  · intro h; exact ⟨hv, by omega⟩
end Go.Nx
