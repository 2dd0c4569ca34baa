/-
  WHAT CAN BE REACHED, AND HOW FAR IT IS: plainly.
-/
import Derived.Test.YtpmpkcjcjccboaaDoorRs
set_option linter.unusedVariables false
namespace Go.Nx
open Go.RowKit
open Classical

def row (L : List (List Int)) (o : Int) : List Int := L[(o - 1).toNat]?.getD []
def own (L : List (List Int)) : B := first L.length
def edge (L : List (List Int)) (o v : Int) : Prop := v ∈ row L o ∧ has (own L) v = true
/-- there in so many steps -/
def Lev (L : List (List Int)) (op : Int → Bool) (s : B) : Nat → Int → Prop
  | 0, v => has s v = true ∧ has (own L) v = true
  | k + 1, v => ∃ o, Lev L op s k o ∧ op o = true ∧ edge L o v
theorem lev_own {L : List (List Int)} {op : Int → Bool} {s : B} : ∀ {k : Nat} {v : Int}, Lev L op s k v → has (own L) v = true
  | 0, v, h => h.2
  | k + 1, v, ⟨o, _, _, h⟩ => h.2
def Rch (L : List (List Int)) (op : Int → Bool) (s : B) (v : Int) : Prop := ∃ k, Lev L op s k v
theorem rch_root {L : List (List Int)} {op : Int → Bool} {s : B} {v : Int} (h : has s v = true) (h' : has (own L) v = true) : Rch L op s v := ⟨0, h, h'⟩
theorem rch_step {L : List (List Int)} {op : Int → Bool} {s : B} {o v : Int} (h : Rch L op s o) (h1 : op o = true) (h2 : edge L o v) : Rch L op s v := by
  obtain ⟨k, hk⟩ := h; exact ⟨k + 1, o, hk, h1, h2⟩
/-- the least closed set -/
theorem rch_ind {L : List (List Int)} {op : Int → Bool} {s : B} {Q : Int → Prop} (h0 : ∀ v, has s v = true → has (own L) v = true → Q v) (h1 : ∀ o v, Rch L op s o → Q o → op o = true → edge L o v → Q v) : ∀ {v : Int}, Rch L op s v → Q v := by
  intro v ⟨k, hk⟩
  induction k generalizing v with
  | zero => exact h0 v hk.1 hk.2
  | succ k ih => obtain ⟨o, a, b, c⟩ := hk; exact h1 o v ⟨k, a⟩ (ih a) b c
theorem rch_own {L : List (List Int)} {op : Int → Bool} {s : B} {v : Int} (h : Rch L op s v) : has (own L) v = true := by obtain ⟨k, hk⟩ := h; exact lev_own hk
/-- the objects that are so -/
noncomputable def ofP (p : Int → Prop) : B := ofL ((lsL (first 64)).filter fun o => decide (p o))
theorem has_ofP (p : Int → Prop) (o : Int) : has (ofP p) o = true ↔ obj o = true ∧ p o := by
  unfold ofP
  rw [has_ofL, Bool.and_eq_true, decide_eq_true_eq, List.mem_filter, mem_lsL, has_first, decide_eq_true_eq]
  constructor
  · rintro ⟨h1, h2, h3⟩; exact ⟨h1, h3⟩
  · rintro ⟨h1, h3⟩
    have := obj_iff.1 h1
    exact ⟨h1, by rw [h1, decide_eq_true this.2]; rfl, h3⟩
noncomputable def rchB (L : List (List Int)) (op : Int → Bool) (s : B) : B := ofP (Rch L op s)
theorem has_rchB {L : List (List Int)} {op : Int → Bool} {s : B} {v : Int} : has (rchB L op s) v = true ↔ Rch L op s v := by
  unfold rchB; rw [has_ofP]
  exact ⟨fun h => h.2, fun h => ⟨by have := has_range (rch_own h); exact obj_t this.1 this.2, h⟩⟩
/-- how far; -1: not reached -/
theorem rch_least {L : List (List Int)} {op : Int → Bool} {s : B} {v : Int} (h : Rch L op s v) : ∃ d : Nat, Lev L op s d v ∧ ∀ k, Lev L op s k v → d ≤ k := by
  obtain ⟨k, hk⟩ := h
  exact least_of (Q := fun k => Lev L op s k v) k hk
noncomputable def distI (L : List (List Int)) (op : Int → Bool) (s : B) (v : Int) : Int := if h : Rch L op s v then ((Classical.choose (rch_least h) : Nat) : Int) else -1
theorem distI_yes {L : List (List Int)} {op : Int → Bool} {s : B} {v : Int} (h : Rch L op s v) : ∃ d : Nat, distI L op s v = d ∧ Lev L op s d v ∧ ∀ k, Lev L op s k v → d ≤ k := by
  unfold distI; rw [dif_pos h]
  exact ⟨_, rfl, Classical.choose_spec (rch_least h)⟩
theorem distI_no {L : List (List Int)} {op : Int → Bool} {s : B} {v : Int} (h : ¬ Rch L op s v) : distI L op s v = -1 := by unfold distI; rw [dif_neg h]
theorem distI_eq {L : List (List Int)} {op : Int → Bool} {s : B} {v : Int} {d : Nat} (h : Lev L op s d v) (h' : ∀ k, Lev L op s k v → d ≤ k) : distI L op s v = d := by
  obtain ⟨e, h1, h2, h3⟩ := distI_yes ⟨d, h⟩
  have := h' _ h2; have := h3 _ h; omega
noncomputable def metF (L : List (List Int)) (op : Int → Bool) (s : B) : List Int := (List.range 64).map fun i : Nat => distI L op s ((i : Int) + 1) + 1
noncomputable def distL (L : List (List Int)) (op : Int → Bool) (s : B) : List Int := (List.range (min L.length 64)).map fun i : Nat => distI L op s ((i : Int) + 1)

/-! ### the walk's state -/
def mt (met : List Int) (v : Int) : Int := at0 met (v - 1)
def hdLe (met : List Int) : List Int → Prop
  | [] => True
  | o :: r => (∀ v, obj v = true → mt met v ≤ mt met o + 1)
structure WInv (L : List (List Int)) (op : Int → Bool) (s : B) (met wait : List Int) : Prop where
  len : met.length = 64
  snd : ∀ v, obj v = true → 0 ≤ mt met v ∧ (0 < mt met v → Lev L op s (mt met v - 1).toNat v)
  wt : ∀ v ∈ wait, 0 < mt met v ∧ has (own L) v = true
  cls : ∀ o v, obj o = true → 0 < mt met o → o ∉ wait → op o = true → edge L o v → 0 < mt met v ∧ mt met v ≤ mt met o + 1
  root : ∀ v, has s v = true → has (own L) v = true → mt met v = 1
  srt : wait.Pairwise fun a b => mt met a ≤ mt met b
  hd : hdLe met wait
  cnt : met.count 0 + wait.length ≤ 64
  bnd : ∀ v, obj v = true → mt met v + met.count 0 ≤ 65
theorem own_obj {L : List (List Int)} {v : Int} (h : has (own L) v = true) : obj v = true := by have := has_range h; exact obj_t this.1 this.2
theorem own_le {L : List (List Int)} {v : Int} (h : has (own L) v = true) : v ≤ L.length := by
  unfold own at h; rw [has_first, Bool.and_eq_true] at h; simpa using h.2
theorem mt_set {met : List Int} (hl : met.length = 64) {v : Int} (hv : obj v = true) (x : Int) {u : Int} (hu : obj u = true) : mt (met.set (v - 1).toNat x) u = if u = v then x else mt met u := by
  have h1 := obj_iff.1 hv; have h2 := obj_iff.1 hu
  unfold mt at0
  rw [List.getElem?_set]
  by_cases e : u = v
  · subst e; rw [if_pos rfl, if_pos (by omega), if_pos rfl]; rfl
  · rw [if_neg (by omega), if_neg e]
/-- at the end -/
theorem WInv.fin {L : List (List Int)} {op : Int → Bool} {s : B} {met : List Int} (h : WInv L op s met []) : met = metF L op s := by
  have key : ∀ d v, Lev L op s d v → 0 < mt met v ∧ mt met v ≤ d + 1 := by
    intro d
    induction d with
    | zero => intro v hv; have := h.root v hv.1 hv.2; omega
    | succ d ih =>
      intro v ⟨o, h1, h2, h3⟩
      obtain ⟨g1, g2⟩ := ih o h1
      have := h.cls o v (own_obj (lev_own h1)) g1 (by simp) h2 h3
      omega
  apply List.ext_getElem?
  intro i
  unfold metF
  by_cases hi : i < 64
  · rw [List.getElem?_map, List.getElem?_range hi]
    have hm : met[i]? = some (mt met ((i : Int) + 1)) := by
      unfold mt at0
      have : ((i : Int) + 1 - 1).toNat = i := by omega
      rw [this]; simp [h.len, hi]
    rw [hm]; simp only [Option.map_some, Option.some.injEq]
    have ho : obj ((i : Int) + 1) = true := obj_t (by omega) (by omega)
    obtain ⟨g1, g2⟩ := h.snd _ ho
    by_cases hp : 0 < mt met ((i : Int) + 1)
    · have hl := g2 hp
      rw [distI_eq hl (fun k hk => by have := key k _ hk; omega)]
      omega
    · rw [distI_no (fun ⟨k, hk⟩ => by have := key k _ hk; omega)]
      omega
  · rw [List.getElem?_eq_none (by rw [h.len]; omega), List.getElem?_eq_none (by simp; omega)]
/-- an object that is not gone on from -/
theorem WInv.skip {L : List (List Int)} {op : Int → Bool} {s : B} {met wait : List Int} {o : Int} (h : WInv L op s met (o :: wait)) (ho : op o = false) : WInv L op s met wait := by
  refine ⟨h.len, h.snd, fun v hv => h.wt v (by simp [hv]), fun u v h0 h1 h2 h3 h4 => ?_, h.root, (List.pairwise_cons.1 h.srt).2, ?_, by have := h.cnt; simp at this; omega, h.bnd⟩
  · refine h.cls u v h0 h1 ?_ h3 h4
    simp only [List.mem_cons, not_or]
    refine ⟨fun e => ?_, h2⟩
    subst e; rw [ho] at h3; cases h3
  · cases wait with
    | nil => trivial
    | cons p r =>
      intro v hv
      have h1 := h.hd v hv
      have h2 := (List.pairwise_cons.1 h.srt).1 p (by simp)
      omega
/-- in the midst of an object's slots -/
structure WMid (L : List (List Int)) (op : Int → Bool) (s : B) (o : Int) (i : Nat) (met wait : List Int) : Prop where
  inv : WInv L op s met wait
  ne : ∃ r, wait = o :: r
  op : op o = true
  don : ∀ v ∈ (row L o).take i, has (own L) v = true → 0 < mt met v ∧ mt met v ≤ mt met o + 1
  mets : ∀ v, obj v = true → mt met v ≤ mt met o + 1
theorem WMid.start {L : List (List Int)} {op : Int → Bool} {s : B} {met wait : List Int} {o : Int} (h : WInv L op s met (o :: wait)) (ho : op o = true) : WMid L op s o 0 met (o :: wait) :=
  ⟨h, ⟨_, rfl⟩, ho, by simp, h.hd⟩
theorem take_step {α : Type} (l : List α) {i : Nat} (x : α) (h : l[i]? = some x) : l.take (i + 1) = l.take i ++ [x] := by
  rw [List.take_add_one, h]; rfl
theorem WMid.old {L : List (List Int)} {op : Int → Bool} {s : B} {met wait : List Int} {o v : Int} {i : Nat} (h : WMid L op s o i met wait) (hv : (row L o)[i]? = some v) (hold : has (own L) v = true → mt met v ≠ 0) : WMid L op s o (i + 1) met wait := by
  refine ⟨h.inv, h.ne, h.op, fun u hu hu2 => ?_, h.mets⟩
  rw [take_step _ _ hv, List.mem_append, List.mem_singleton] at hu
  rcases hu with hu | rfl
  · exact h.don u hu hu2
  · have := (h.inv.snd u (own_obj hu2)).1
    have := hold hu2
    exact ⟨by omega, h.mets u (own_obj hu2)⟩
theorem count_set_zero {l : List Int} {i : Nat} {x : Int} (h : l[i]? = some 0) (hx : x ≠ 0) : (l.set i x).count 0 + 1 = l.count 0 := by
  induction l generalizing i with
  | nil => simp at h
  | cons a l ih =>
    cases i with
    | zero =>
      simp at h; subst h
      simp [List.count_cons, hx]
    | succ i =>
      have := ih (i := i) (by simpa using h)
      simp only [List.set_cons_succ, List.count_cons]; omega
theorem WMid.new {L : List (List Int)} {op : Int → Bool} {s : B} {met wait : List Int} {o v : Int} {i : Nat} (h : WMid L op s o i met wait) (hv : (row L o)[i]? = some v) (hw : has (own L) v = true) (hz : mt met v = 0) : WMid L op s o (i + 1) (met.set (v - 1).toNat (mt met o + 1)) (wait ++ [v]) := by
  obtain ⟨hi, ⟨r, rfl⟩, hop, hd, hm⟩ := h
  have hvo := own_obj hw
  have how := hi.wt o (by simp)
  have hoo := own_obj how.2
  have hov : o ≠ v := fun e => by subst e; omega
  have hvm : v ∈ row L o := List.mem_of_getElem? hv
  have S := fun u (hu : obj u = true) => mt_set hi.len hvo (mt met o + 1) hu
  have So := S o hoo
  rw [if_neg hov] at So
  have Sv := S v hvo
  rw [if_pos rfl] at Sv
  have hvr := obj_iff.1 hvo
  have hnw : ∀ u ∈ o :: r, u ≠ v := fun u hu e => by subst e; have := (hi.wt u hu).1; omega
  have hg : met[(v - 1).toNat]? = some 0 := by
    have : (v - 1).toNat < met.length := by rw [hi.len]; omega
    unfold mt at0 at hz
    rw [List.getElem?_eq_getElem this] at hz ⊢
    simpa using hz
  have hcn := count_set_zero hg (x := mt met o + 1) (by omega)
  refine ⟨⟨by simp [hi.len], fun u hu => ?_, fun u hu => ?_, fun a u h0 h1 h2 h3 h4 => ?_, fun u h1 h2 => ?_, ?_, ?_, ?_, fun u hu => ?_⟩, ⟨r ++ [v], rfl⟩, hop, fun u hu hu2 => ?_, fun u hu => ?_⟩
  · rw [S u hu]
    split
    · rename_i e; subst e
      refine ⟨by omega, fun _ => ?_⟩
      have hL := (hi.snd o hoo).2 how.1
      have e : (mt met o + 1 - 1).toNat = (mt met o - 1).toNat + 1 := by omega
      rw [e]
      exact ⟨o, hL, hop, hvm, hw⟩
    · exact hi.snd u hu
  · rw [List.mem_append, List.mem_singleton] at hu
    rcases hu with hu | rfl
    · have := hi.wt u hu
      rw [S u (own_obj this.2), if_neg (hnw u hu)]
      exact this
    · rw [Sv]; exact ⟨by omega, hw⟩
  · have hav : a ≠ v := fun e => h2 (by simp [e])
    have ha2 : a ∉ o :: r := fun e => h2 (by rw [List.mem_append]; exact .inl e)
    rw [S a h0, if_neg hav] at h1 ⊢
    have huo := own_obj h4.2
    have := hi.cls a u h0 h1 ha2 h3 h4
    rw [S u huo, if_neg (fun e => by subst e; omega)]
    exact this
  · have := hi.root u h1 h2
    rw [S u (own_obj h2), if_neg (fun e => by subst e; omega)]
    exact this
  · rw [List.pairwise_append]
    refine ⟨?_, by simp, fun a ha b hb => ?_⟩
    · refine hi.srt.imp_of_mem fun {a b} ha hb hab => ?_
      rw [S a (own_obj (hi.wt a ha).2), S b (own_obj (hi.wt b hb).2), if_neg (hnw a ha), if_neg (hnw b hb)]
      exact hab
    · simp only [List.mem_singleton] at hb; subst hb
      rw [Sv, S a (own_obj (hi.wt a ha).2), if_neg (hnw a ha)]
      exact hm a (own_obj (hi.wt a ha).2)
  · show ∀ u, obj u = true → _
    intro u hu
    rw [So, S u hu]
    split
    · omega
    · exact hm u hu
  · have h2 := hi.cnt
    simp only [List.length_append, List.length_cons, List.length_nil] at h2 ⊢; omega
  · have h3 := hi.bnd o hoo
    have h4 := hi.bnd u hu
    rw [S u hu]
    split <;> omega
  · rw [take_step _ _ hv, List.mem_append, List.mem_singleton] at hu
    rw [So]
    rcases hu with hu | rfl
    · have := hd u hu hu2
      rw [S u (own_obj hu2)]
      split
      · omega
      · exact this
    · rw [Sv]; omega
  · rw [So, S u hu]
    split
    · omega
    · exact hm u hu
theorem WMid.done {L : List (List Int)} {op : Int → Bool} {s : B} {met wait : List Int} {o : Int} {i : Nat} (h : WMid L op s o i met (o :: wait)) (hi : (row L o).length ≤ i) : WInv L op s met wait := by
  obtain ⟨hi2, -, hop, hd, hm⟩ := h
  rw [List.take_of_length_le hi] at hd
  refine ⟨hi2.len, hi2.snd, fun v hv => hi2.wt v (by simp [hv]), fun u v h0 h1 h2 h3 h4 => ?_, hi2.root, (List.pairwise_cons.1 hi2.srt).2, ?_, by have := hi2.cnt; simp at this; omega, hi2.bnd⟩
  · by_cases e : u = o
    · subst e; exact hd v h4.1 h4.2
    · exact hi2.cls u v h0 h1 (by simp [e, h2]) h3 h4
  · cases wait with
    | nil => trivial
    | cons p r =>
      intro v hv
      have h1 := hm v hv
      have h2 := (List.pairwise_cons.1 hi2.srt).1 p (by simp)
      omega
/-! the start -/
def iniM (l : List Int) : List Int := l.foldl (fun m o => m.set (o - 1).toNat 1) (List.replicate 64 0)
theorem iniM_snoc (l : List Int) (o : Int) : iniM (l ++ [o]) = (iniM l).set (o - 1).toNat 1 := by simp [iniM]
theorem iniM_len (l : List Int) : (iniM l).length = 64 := by
  unfold iniM
  generalize hm : List.replicate 64 (0 : Int) = m
  have h : m.length = 64 := by rw [← hm]; simp
  clear hm
  induction l generalizing m with
  | nil => exact h
  | cons x l ih => exact ih _ (by simpa using h)
theorem snoc_ind {Q : List Int → Prop} (h0 : Q []) (h1 : ∀ l x, Q l → Q (l ++ [x])) (l : List Int) : Q l := by
  have : ∀ l : List Int, Q l.reverse := by
    intro l
    induction l with
    | nil => exact h0
    | cons x l ih => rw [List.reverse_cons]; exact h1 _ _ ih
  have := this l.reverse
  rwa [List.reverse_reverse] at this
theorem mt_iniM (l : List Int) : (∀ o ∈ l, obj o = true) → ∀ v, obj v = true → mt (iniM l) v = if v ∈ l then 1 else 0 := by
  refine snoc_ind (Q := fun l => (∀ o ∈ l, obj o = true) → ∀ v, obj v = true → mt (iniM l) v = if v ∈ l then 1 else 0) ?_ ?_ l
  · intro _ v hv
    have := obj_iff.1 hv
    simp only [iniM, mt, at0, List.foldl_nil, List.not_mem_nil, if_false]
    rw [List.getElem?_replicate, if_pos (by omega)]; rfl
  · intro l x ih ho v hv
    rw [iniM_snoc, mt_set (iniM_len l) (ho x (by simp)) 1 hv, ih (fun o h => ho o (by simp [h])) v hv]
    by_cases e : v = x
    · subst e; simp
    · by_cases e2 : v ∈ l <;> simp [e, e2]
theorem iniM_cnt (l : List Int) : (∀ o ∈ l, obj o = true) → l.Nodup → (iniM l).count 0 + l.length = 64 := by
  refine snoc_ind (Q := fun l => (∀ o ∈ l, obj o = true) → l.Nodup → (iniM l).count 0 + l.length = 64) ?_ ?_ l
  · intro _ _
    simp [iniM]
  · intro l x ih ho hn
    rw [List.nodup_append] at hn
    have hx : x ∉ l := fun h => hn.2.2 x h x (by simp) rfl
    have h1 := ih (fun o h => ho o (by simp [h])) hn.1
    have hxo := ho x (by simp)
    have hm := mt_iniM l (fun o h => ho o (by simp [h])) x hxo
    rw [if_neg hx] at hm
    have hr := obj_iff.1 hxo
    have hg : (iniM l)[(x - 1).toNat]? = some 0 := by
      have : (x - 1).toNat < (iniM l).length := by rw [iniM_len]; omega
      unfold mt at0 at hm
      rw [List.getElem?_eq_getElem this] at hm ⊢
      simpa using hm
    have := count_set_zero hg (x := 1) (by decide)
    rw [iniM_snoc, List.length_append, List.length_singleton]; omega
theorem WInv.init (L : List (List Int)) (op : Int → Bool) (s : B) : WInv L op s (iniM (lsL (s &&& own L))) (lsL (s &&& own L)) := by
  have hob : ∀ o ∈ lsL (s &&& own L), obj o = true := fun o ho => by have := has_range (mem_lsL.1 ho); exact obj_t this.1 this.2
  have hm : ∀ o, o ∈ lsL (s &&& own L) ↔ has s o = true ∧ has (own L) o = true := fun o => by rw [mem_lsL, has_and, Bool.and_eq_true]
  have S := mt_iniM _ hob
  have hc := iniM_cnt _ hob (lsL_nodup _)
  refine ⟨iniM_len _, fun v hv => ?_, fun v hv => ?_, fun a u h0 h1 h2 h3 h4 => ?_, fun v h1 h2 => ?_, ?_, ?_, by omega, fun v hv => ?_⟩
  · rw [S v hv]
    split
    · rename_i h
      exact ⟨by omega, fun _ => (hm v).1 h⟩
    · exact ⟨by omega, fun h => by omega⟩
  · rw [S v (hob v hv), if_pos hv]
    exact ⟨by omega, ((hm v).1 hv).2⟩
  · rw [S a h0, if_neg h2] at h1; omega
  · rw [S v (own_obj h2), if_pos ((hm v).2 ⟨h1, h2⟩)]
  · refine (lsN_sorted (s &&& own L) 64).imp_of_mem fun {a b} ha hb _ => ?_
    rw [S a (hob a ha), S b (hob b hb), if_pos ha, if_pos hb]; omega
  · have key : ∀ o ∈ lsL (s &&& own L), ∀ v, obj v = true → mt (iniM (lsL (s &&& own L))) v ≤ mt (iniM (lsL (s &&& own L))) o + 1 := by
      intro o ho v hv
      rw [S v hv, S o (hob o ho), if_pos ho]; split <;> omega
    cases hl : lsL (s &&& own L) with
    | nil => trivial
    | cons o r => rw [hl] at key; exact key o (by simp)
  · rw [S v hv]; split <;> omega
end Go.Nx
