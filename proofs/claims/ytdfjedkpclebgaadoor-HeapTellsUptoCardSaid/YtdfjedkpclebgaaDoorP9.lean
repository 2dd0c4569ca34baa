/-
  A part of the machine, and of what is walked.
-/
import Derived.Test.YtdfjedkpclebgaaDoorP8
import Derived.Carry
import Derived.ProofKit
import Derived.Lib.LaidTab
import Derived.Lib.SmallJoins
import Derived.IntWalk
section
set_option linter.unusedVariables false
namespace Go.Nx
open Go.RowKit Go.ChangeShapes

section
variable {H : Type} {enc : TypeId × Value → H} {P : Program}

theorem trodAll_places : ∀ {ts : List TypeId} {vs : List Value} {ds : List (DataW H)} {w : World} {base : Nat} {sp : Nat → Bool} {held : Bool} {ps : List MemPlace}, DataW.TrodAll enc P w base sp held ts vs ds ps →
    ts.length = vs.length ∧ vs.length = ds.length := by
  intro ts
  induction ts with
  | nil => intro vs ds w base sp held ps h; cases vs <;> cases ds <;> simp_all [DataW.TrodAll]
  | cons t ts ih =>
    intro vs ds w base sp held ps h
    cases vs with
    | nil => simp [DataW.TrodAll] at h
    | cons v vs => cases ds with
      | nil => simp [DataW.TrodAll] at h
      | cons d ds => obtain ⟨p, q, h1, h2, h3⟩ := h; have := ih h2; simp [this]
theorem trodAll_stays (hl : laidOutB P = true) {W W' : World} {sp' : Nat → Bool} : ∀ {ts : List TypeId} {vs : List Value} {ds : List (DataW H)} {ps : List MemPlace}, (∀ t ∈ ts, P.readableRec t = true ∧ t < P.types.size) →
    DataW.TrodAll enc P W 0 (fun _ => true) true ts vs ds ps → (∀ p ∈ ps, W.sameAt W' p) → (∀ p ∈ ps, sp' p.block = true) → DataW.TrodAll enc P W' 0 sp' true ts vs ds ps := by
  intro ts
  induction ts with
  | nil => intro vs ds ps _ h _ _; cases vs <;> cases ds <;> simp_all [DataW.TrodAll]
  | cons t ts ih =>
    intro vs ds ps ht h h1 h2
    cases vs with
    | nil => simp [DataW.TrodAll] at h
    | cons v vs => cases ds with
      | nil => simp [DataW.TrodAll] at h
      | cons d ds =>
        obtain ⟨p, q, h3, h4, rfl⟩ := h
        exact ⟨p, q, WideElems.Trod_stays hl (ht t (by simp)).1 (ht t (by simp)).2 h3 (fun x hx => h1 x (by simp [hx])) (fun x hx => h2 x (by simp [hx])),
          ih (fun t' h => ht t' (by simp [h])) h4 (fun x hx => h1 x (by simp [hx])) (fun x hx => h2 x (by simp [hx])), rfl⟩

theorem post_true {f : Func} {s : ChangeSpec} {W W' : World} {args : Array Value} {ds gs : List (DataW H)} {before : List MemPlace} {tb : TypeId}
    (hW : DataW.Whole enc P f.params.toList s.vars false W args.toList ds gs before) (hb : Below W.heap.size W W') (hl : laidOutB P = true)
    (hp : ∀ t ∈ f.params.toList, P.readableRec t = true ∧ t < P.types.size) (hrt : f.resultTypes = #[tb]) (htb : P.underlying tb = some .bool) (hv : s.vars = [])
    (hr : (s.fn H (ds ++ gs)).results = [.lit (.bool true)]) (ha : (s.fn H (ds ++ gs)).args = ds) (hvs : (s.fn H (ds ++ gs)).vars = []) :
    s.post enc P f false true false false W args (.bool true) W' := by
  have hlt : ∀ p ∈ before, p.block < W.heap.size := fun p h => hW.lt p h
  have hW0 := hW
  obtain ⟨p, q, hA, hV, rfl, hz, hn⟩ := hW0
  have hres : ∀ (b : Nat) (sp : Nat → Bool) (hd : Bool), DataW.TrodAll enc P W' b sp hd f.resultTypes.toList ((Value.bool true).resultList f.resultTypes.size) (s.fn H (ds ++ gs)).results [] := fun b sp hd => by
    rw [hr, hrt]
    exact ⟨[], [], shut_bool htb true, rfl, rfl⟩
  rw [hv] at hV
  have hq : q = [] := by cases gs <;> simp [DataW.TrodVars] at hV; exact hV
  subst hq
  have hargs : ∀ sp : Nat → Bool, (∀ x ∈ p ++ [], sp x.block = true) → DataW.TrodAll enc P W' 0 sp true f.params.toList args.toList (s.fn H (ds ++ gs)).args p := fun sp hs => by
    rw [ha]
    exact trodAll_stays hl hp hA (fun x hx => hb.same (hlt x (by simp [hx]))) (fun x hx => hs x (by simp [hx]))
  have hvars : ∀ sp : Nat → Bool, DataW.TrodVars enc P W' sp s.vars (s.fn H (ds ++ gs)).vars [] := fun sp => by rw [hv, hvs]; rfl
  have hold : ∀ x ∈ p ++ [], (fun b => decide (b < W.heap.size)) x.block = true := fun x hx => by simpa using hlt x hx
  refine ⟨ds, gs, p ++ [], [], p, [], hW, hres _ _ _, hargs _ hold, hvars _, World.keptBut_mono (fun x hx => ⟨hx, ?_⟩) (hb.frame (· ∈ p ++ [])), fun h => ?_⟩
  · exact .inr (.inl (by simpa using hx))
  · cases h
end
end Go.Nx
end
section
set_option linter.unusedVariables false
namespace Go.Nx
open Go.RowKit Go.ChangeShapes Go.WideShapes Go.Lib Go.Joins Go.Deep Go.WideElems Go.Maps

section
variable {H : Type} {enc : TypeId × Value → H} {P : Program} {w : World} {base : Nat} {spare : Nat → Bool} {held : Bool}

def InK (k : IntKind) (n : Int) : Prop := (Lit.int k n).wf = true
theorem wf_u64 {n : Int} (h : (Lit.int .u64 n).wf = true) : 0 ≤ n ∧ n < 18446744073709551616 := by
  simp [Lit.wf, IntKind.min, IntKind.max, IntKind.signed, IntKind.bits] at h; omega
theorem wf_i64 {n : Int} (h : (Lit.int .i64 n).wf = true) : -9223372036854775808 ≤ n ∧ n ≤ 9223372036854775807 := by
  simp [Lit.wf, IntKind.min, IntKind.max, IntKind.signed, IntKind.bits] at h; omega
theorem wf_u8 {n : Int} (h : (Lit.int .u8 n).wf = true) : 0 ≤ n ∧ n ≤ 255 := by
  simp [Lit.wf, IntKind.min, IntKind.max, IntKind.signed, IntKind.bits] at h; omega

theorem open_two {r : Reach} {b0 : Nat} {t : TypeId} {f0 f1 : Field} {k0 k1 : IntKind} {v : Value} {d : DataW H} {p : List MemPlace} (hs : P.underlying t = some (.struct #[f0, f1])) (hone : oneCellFields P #[f0, f1] = true) (hC : P.cellsOf t = 2)
    (h0 : P.underlying f0.type = some (.int k0)) (h1 : P.underlying f1.type = some (.int k1)) (hv : Value.okWide P w r b0 t v) (h : DataW.Trod enc P w base spare held t v d p) :
    ∃ m n, v = .agg #[.int k0 m, .int k1 n] ∧ (Lit.int k0 m).wf = true ∧ (Lit.int k1 n).wf = true := by
  obtain ⟨v0, v1, y0, y1, n, rfl, rfl, rfl, g0, g1⟩ := open_agg2 hs hone hC hv h
  obtain ⟨m0, e0, _, w0⟩ := DataW.trod_int h0 g0
  obtain ⟨m1, e1, _, w1⟩ := DataW.trod_int h1 g1
  obtain rfl : v0 = .int k0 m0 := by simpa using e0
  obtain rfl : v1 = .int k1 m1 := by simpa using e1
  exact ⟨m0, m1, rfl, w0, w1⟩
theorem relT_two {S : Cells} {w : World} {k0 k1 : IntKind} {m n : Int} : RelT S w (.agg [.int k0 m, .int k1 n]) (.agg #[.int k0 m, .int k1 n]) := by
  refine .agg _ _ rfl fun i c v hc hv => ?_
  rcases i with _ | _ | i
  · simp at hc hv; subst hc hv; exact .int _ _
  · simp at hc hv; subst hc hv; exact .int _ _
  · simp at hc

theorem cells_of_strs {fuel : Nat} {t e : TypeId} {n : Nat} {cs : List Value} {zs : List (List UInt8)} {p : List MemPlace}
    (ht : P.underlying t = some (.array n e)) (he : P.underlying e = some .string) (hce : P.cellsOf e = 1) (hct : P.cellsOf t = n)
    (h : DataW.trod enc P w base spare held fuel t cs = some (.agg (zs.map fun z => .lit (.string z)), p)) : cs = zs.map fun z => Value.string ⟨z.toArray⟩ := by
  cases fuel with
  | zero => simp [DataW.trod] at h
  | succ fuel =>
    simp only [DataW.trod, ht, hce, hct, Nat.mul_one] at h
    split at h
    · rename_i hl
      obtain ⟨xs, hm, hx⟩ := Option.map_eq_some_iff.1 h
      have hxs : xs.map (·.1) = zs.map fun z => (DataW.lit (.string z) : DataW H) := by
        have := congrArg Prod.fst hx
        simpa using this
      have hxl : xs.length = n := by simpa using mapM_length hm
      have hzl : zs.length = n := by
        have := congrArg List.length hxs
        simp at this
        omega
      apply List.ext_getElem?
      intro i
      by_cases hi : i < n
      · obtain ⟨b, hb, hf⟩ := mapM_at hm i i (by simp [hi])
        obtain ⟨z, hc, rfl, _⟩ := DataW.trod_string he hf
        have h1 : cs[i]? = some (.string z) := by
          have := congrArg (·[0]?) hc
          simpa [List.getElem?_take, List.getElem?_drop] using this
        have h2 : (xs.map (·.1))[i]? = some (DataW.lit (.string z.data.toList) : DataW H) := by simp [hb]
        rw [hxs] at h2
        simp only [List.getElem?_map, Option.map_eq_some_iff, DataW.lit.injEq, Lit.string.injEq] at h2
        obtain ⟨z', hz', rfl⟩ := h2
        simp [h1, hz']
      · rw [List.getElem?_eq_none (by omega), List.getElem?_eq_none (by simp; omega)]
    · cases h
theorem strs_of_head {W : World} {name : String} {zs : List (List UInt8)} {rest : List (String × DataW Unit)} {g : Nat} {t e : TypeId} {n : Nat}
    (hg : P.globalNamed name = some g) (hty : (P.globals[g]?).map (·.type) = some t) (ht : P.underlying t = some (.array n e)) (he : P.underlying e = some .string) (hce : P.cellsOf e = 1) (hct : P.cellsOf t = n)
    (h : laidMet P ((name, .agg (zs.map fun z => .lit (.string z))) :: rest) W) (i : Nat) (hi : i < zs.length) : W.cell? ⟨g, i, none⟩ = some (.string ⟨(zs[i]).toArray⟩) := by
  obtain ⟨ps, ⟨g', t', cs, fuel, p, q, hg', ht', hvar, hd, _, _⟩, _⟩ := h
  obtain rfl := Option.some.inj (hg.symm.trans hg')
  obtain rfl := Option.some.inj (hty.symm.trans ht')
  have e := cells_of_strs ht he hce hct hd
  have := World.var?_cell hg hvar i
  rw [this]
  have e2 : cs[i]? = cs.toList[i]? := by simp
  rw [e2, e]
  simp [hi]
theorem cell_lt {W : World} {g i : Nat} {v : Value} (h : W.cell? ⟨g, i, none⟩ = some v) : g < W.heap.size := by
  rcases Nat.lt_or_ge g W.heap.size with h' | h'
  · exact h'
  · rw [cell?_eq] at h
    rw [Array.getElem?_eq_none h'] at h
    cases h
end
end Go.Nx
end
section
set_option linter.unusedVariables false
set_option linter.unusedSimpArgs false
namespace Go.Nx
open Go.RowKit

abbrev B := BitVec 64
def bv (s : Int) : B := BitVec.ofInt 64 s
def iv (b : B) : Int := (b.toNat : Int)
def R64 (s : Int) : Prop := 0 ≤ s ∧ s < 18446744073709551616
def I64 (s : Int) : Prop := -9223372036854775808 ≤ s ∧ s ≤ 9223372036854775807

theorem R_iv (b : B) : R64 (iv b) := ⟨Int.natCast_nonneg _, by unfold iv; have := b.isLt; omega⟩
@[simp] theorem bv_iv (b : B) : bv (iv b) = b := by simp [bv, iv]
theorem iv_bv {s : Int} (h : R64 s) : iv (bv s) = s := by
  obtain ⟨h0, h1⟩ := h
  simp only [iv, bv, BitVec.toNat_ofInt]
  have : s % (2 ^ 64 : Nat) = s := Int.emod_eq_of_lt h0 (by simpa using h1)
  rw [this]; omega
theorem iv_inj {a b : B} : iv a = iv b ↔ a = b := by
  unfold iv
  constructor
  · intro h; exact BitVec.eq_of_toNat_eq (by omega)
  · intro h; rw [h]
theorem exists_iv {s : Int} (h : R64 s) : ∃ b, s = iv b := ⟨bv s, (iv_bv h).symm⟩
theorem wrap_u64 {n : Int} (h : R64 n) : IntKind.u64.wrap n = n := IntWalk.u64_in n ⟨h.1, by have := h.2; omega⟩
theorem wrap_i64 {n : Int} (h : I64 n) : IntKind.i64.wrap n = n := IntWalk.i64_in n h
theorem wrap_iv (n : Int) : IntKind.u64.wrap n = iv (bv n) := by
  simp only [iv, bv, BitVec.toNat_ofInt, IntKind.wrap, IntKind.signed, IntKind.bits, Bool.false_and, Bool.false_eq_true, if_false]
  have h0 : (0 : Int) ≤ n % 18446744073709551616 := Int.emod_nonneg _ (by decide)
  have e : ((2 : Int) ^ 64) = 18446744073709551616 := by decide
  have e2 : ((2 ^ 64 : Nat) : Int) = 18446744073709551616 := by decide
  rw [e, e2]
  omega
@[simp] theorem andI_u (a b : Int) : andI .u64 a b = iv (bv a &&& bv b) := wrap_u64 (R_iv (bv a &&& bv b))
@[simp] theorem orI_u (a b : Int) : orI .u64 a b = iv (bv a ||| bv b) := wrap_u64 (R_iv (bv a ||| bv b))
@[simp] theorem xorI_u (a b : Int) : xorI .u64 a b = iv (bv a ^^^ bv b) := wrap_u64 (R_iv (bv a ^^^ bv b))
@[simp] theorem andNotI_u (a b : Int) : andNotI .u64 a b = iv (bv a &&& ~~~ bv b) := wrap_u64 (R_iv (bv a &&& ~~~ bv b))
theorem shlI_u (a n : Int) (h : 0 ≤ n ∧ n < 64) : shlI .u64 a n = iv (bv a <<< n.toNat) := by
  simp only [shlI]
  rw [wrap_iv]
  congr 1
  have : min n.toNat (IntKind.bits .u64) = n.toNat := by simp [IntKind.bits]; omega
  rw [this]
  apply BitVec.eq_of_toNat_eq
  simp only [bv, BitVec.toNat_shiftLeft, BitVec.toNat_ofInt, Nat.shiftLeft_eq]
  have e2 : ((2 ^ 64 : Nat) : Int) = 18446744073709551616 := by decide
  have e3 : (2 ^ 64 : Nat) = 18446744073709551616 := by decide
  rw [e2, e3]
  generalize hp : 2 ^ n.toNat = p
  have hp' : (2 : Int) ^ n.toNat = (p : Int) := by rw [← hp]; simp
  rw [hp']
  have h1 : 0 ≤ a % 18446744073709551616 := Int.emod_nonneg _ (by decide)
  have h2 : 0 ≤ a * p % 18446744073709551616 := Int.emod_nonneg _ (by decide)
  apply Int.ofNat_inj.1
  rw [Int.toNat_of_nonneg h2, Int.natCast_emod, Int.natCast_mul, Int.toNat_of_nonneg h1]
  simp only [Int.cast_ofNat_Int]
  rw [Int.mul_emod (a % 18446744073709551616) (p : Int) 18446744073709551616, Int.emod_emod_of_dvd a (Int.dvd_refl _), ← Int.mul_emod]
theorem shrI_u (b : B) (n : Int) (h : 0 ≤ n ∧ n < 64) : shrI .u64 (iv b) n = iv (b >>> n.toNat) := by
  simp only [shrI]
  have : min n.toNat (IntKind.bits .u64) = n.toNat := by simp [IntKind.bits]; omega
  rw [this]
  simp only [iv, BitVec.toNat_ushiftRight, Nat.shiftRight_eq_div_pow]
  rw [Int.fdiv_eq_ediv_of_nonneg _ (Int.le_of_lt (Int.pow_pos (by decide)))]
  simp

def obj (o : Int) : Bool := decide (1 ≤ o ∧ o ≤ 64)
def bit (o : Int) : B := if obj o then 1#64 <<< (o - 1).toNat else 0
def has (s : B) (o : Int) : Bool := obj o && s.getLsbD (o - 1).toNat
def add (s : B) (o : Int) : B := s ||| bit o
def under (a b : B) : Bool := a &&& b == a
def first (n : Int) : B := if n < 1 then 0 else BitVec.allOnes 64 >>> (64 - min n 64).toNat

theorem one_shl_get (k i : Nat) (hk : k < 64) : (1#64 <<< k).getLsbD i = decide (i = k) := by
  rw [BitVec.getLsbD_shiftLeft]
  by_cases e : i = k
  · subst e; simp [hk]
  · rw [Bool.eq_iff_iff]
    simp only [BitVec.getLsbD_one, Bool.and_eq_true, decide_eq_true_eq, Bool.not_eq_true']
    constructor
    · intro h; have h1 := h.1.2; have h2 := h.2; simp at h1; omega
    · intro h; exact absurd h e
theorem bit_get (o : Int) (i : Nat) : (bit o).getLsbD i = (obj o && decide (i = (o - 1).toNat)) := by
  unfold bit
  split
  · rename_i h
    have h' := of_decide_eq_true h
    rw [one_shl_get _ _ (by omega), h, Bool.true_and]
  · rename_i h
    rw [Bool.not_eq_true] at h
    rw [h, Bool.false_and]; exact BitVec.getLsbD_zero
theorem has_bit (s : B) (o : Int) : (s &&& bit o == 0) = !has s o := by
  unfold has
  have hb := bit_get o
  generalize hk : (o - 1).toNat = k at hb ⊢
  by_cases h : obj o = true
  · by_cases g : s.getLsbD k = true
    · simp only [h, g, Bool.and_self, Bool.not_true, beq_eq_false_iff_ne]
      intro e
      have := congrArg (fun x : B => x.getLsbD k) e
      simp [BitVec.getLsbD_and, hb, h, g] at this
    · simp only [Bool.not_eq_true] at g
      simp only [h, g, Bool.and_false, Bool.not_false, beq_iff_eq]
      apply BitVec.eq_of_getLsbD_eq
      intro i hi
      simp only [BitVec.getLsbD_and, hb, BitVec.getLsbD_zero, h, Bool.true_and]
      by_cases e : i = k
      · subst e; simp [g]
      · simp [e]
  · simp only [Bool.not_eq_true] at h
    simp [h, bit]
theorem eqI_iv (a b : B) : eqI (iv a) (iv b) = (a == b) := by
  rw [eqI_def, Bool.eq_iff_iff]; simp [iv_inj]
theorem iv_zero : iv 0 = 0 := rfl
theorem eqI_iv0 (a : B) : eqI (iv a) 0 = (a == 0) := by rw [← iv_zero, eqI_iv]
theorem under_not (a b : B) : (a &&& ~~~ b == 0) = under a b := by
  unfold under
  rw [Bool.eq_iff_iff]
  simp only [beq_iff_eq]
  constructor
  · intro h
    apply BitVec.eq_of_getLsbD_eq
    intro i hi
    have := congrArg (fun x : B => x.getLsbD i) h
    simp [BitVec.getLsbD_and, BitVec.getLsbD_not, hi] at this ⊢
    exact this
  · intro h
    apply BitVec.eq_of_getLsbD_eq
    intro i hi
    have := congrArg (fun x : B => x.getLsbD i) h
    simp [BitVec.getLsbD_and, BitVec.getLsbD_not, hi] at this ⊢
    exact this
end Go.Nx
end
section
set_option linter.unusedVariables false
namespace Go.Nx
open Go.RowKit

theorem lt_t {a b : Int} : ltI a b = true ↔ a < b := by rw [ltI_def]; simp
theorem lt_f {a b : Int} : ltI a b = false ↔ b ≤ a := by rw [ltI_def]; simp
theorem le_t {a b : Int} : leI a b = true ↔ a ≤ b := by rw [leI_def]; simp
theorem le_f {a b : Int} : leI a b = false ↔ b < a := by rw [leI_def]; simp
theorem eq_t {a b : Int} : eqI a b = true ↔ a = b := by rw [eqI_def]; simp
theorem eq_f {a b : Int} : eqI a b = false ↔ a ≠ b := by rw [eqI_def]; simp
@[simp] theorem eqI_self (a : Int) : eqI a a = true := by rw [eqI_def]; simp
theorem not_t {a : Bool} : (!a) = true ↔ a = false := by simp
theorem not_f {a : Bool} : (!a) = false ↔ a = true := by simp

def ansL : List (Nat × (List T → Ans)) → Nat → List T → Ans
  | [], _, _ => .no
  | p :: r, f, vs => match p with
    | (j, g) => match Nat.beq j f with
      | true => g vs
      | false => ansL r f vs
def Got (a : Ans) (x : T) : Prop := a = .yes x ∨ ∃ p d, a = @Ans.req p d x ∧ p
theorem got_yes {x y : T} (h : Got (.yes x) y) : y = x := by
  rcases h with h | ⟨p, _, h, _⟩
  · cases h; rfl
  · cases h
theorem got_req {p : Prop} {d : Decidable p} {x y : T} (h : Got (@Ans.req p d x) y) : p ∧ y = x := by
  rcases h with h | ⟨q, _, h, hq⟩
  · cases h
  · cases h; exact ⟨hq, rfl⟩
theorem got_no {x : T} (h : Got .no x) : False := by
  rcases h with h | ⟨q, _, h, hq⟩ <;> cases h
theorem got_gl {p : Prop} {d : Decidable p} {sz : Nat} {xs : List T} {x : T} (h : Got (@Ans.gl p d sz xs) x) : False := by
  rcases h with h | ⟨q, _, h, hq⟩ <;> cases h
theorem got_pk {p : Prop} {d : Decidable p} {x y : T} (h : Got (@Ans.pk p d y) x) : False := by
  rcases h with h | ⟨q, _, h, hq⟩ <;> cases h
abbrev Pt := Nat → List V → Own → (V → Own → Prop) → Prop
def ptNo : Pt := fun _ _ _ _ => False
def isL : List (Nat × Pt) → Nat → Bool
  | [], _ => false
  | p :: r, f => match p with
    | (j, _) => match Nat.beq j f with
      | true => true
      | false => isL r f
def ptL : List (Nat × Pt) → Nat → Pt
  | [], _, _, _, _, _ => False
  | p :: r, f, base, args, own, R => match p with
    | (j, g) => match Nat.beq j f with
      | true => g base args own R
      | false => ptL r f base args own R
def EnP (pl : List (Nat × (List T → AnsP))) (gl : Nat → Option (List T)) (l : List (Nat × (List T → Ans))) (il : List (Nat × Pt)) : Env := ⟨ansL l, gl, 0, [], isL il, ptL il, fun n => isL il (Nat.add n 1000000), pl⟩
abbrev En := EnP []
section
variable {P : Program} {pl : List (Nat × (List T → AnsP))} {gl : Nat → Option (List T)} {l : List (Nat × (List T → Ans))} {il : List (Nat × Pt)}
theorem env_nil : EnvOk P (EnP [] gl [] []) := ⟨fun f vs x h => (got_no h).elim, fun f vs p d sz xs h => (by cases h), fun f vs p d x h => (by cases h), fun f base args own R h => (by cases h), fun f g h => (by cases h)⟩
theorem env_pn {n : Nat} {g : List T → AnsP} (h : EnvOk P (EnP pl gl l il)) (hg : ∀ vs p c x y, g vs = .br p c x y → p → FnPk P gl n vs c x y) : EnvOk P (EnP ((n, g) :: pl) gl l il) := by
  refine ⟨h.fn, h.gl, h.pk, h.pt, fun f g' hm => ?_⟩
  rcases List.mem_cons.1 hm with e | hm
  · cases e; exact hg
  · exact h.pn f g' hm
theorem env_fn {n : Nat} {g : List T → Ans} (h : EnvOk P (EnP pl gl l il)) (hg : ∀ vs x, Got (g vs) x → FnOk P gl n vs x) (hg2 : ∀ vs p d sz xs, g vs = @Ans.gl p d sz xs → p → FnGl P gl n vs sz xs) (hg3 : ∀ vs p d x, g vs = @Ans.pk p d x → p → FnOk P gl n vs x) : EnvOk P (EnP pl gl ((n, g) :: l) il) := by
  refine ⟨fun f vs x hx => ?_, fun f vs p d sz xs hx hp => ?_, fun f vs p d x hx hp => ?_, h.pt, h.pn⟩
  · have hx' : Got (ansL ((n, g) :: l) f vs) x := hx
    simp only [ansL] at hx'
    cases e : Nat.beq n f with
    | true =>
      rw [e] at hx'
      rw [← Nat.eq_of_beq_eq_true e]
      exact hg vs x hx'
    | false =>
      rw [e] at hx'
      exact h.fn f vs x hx'
  · have hx' : ansL ((n, g) :: l) f vs = @Ans.gl p d sz xs := hx
    simp only [ansL] at hx'
    cases e : Nat.beq n f with
    | true =>
      rw [e] at hx'
      rw [← Nat.eq_of_beq_eq_true e]
      exact hg2 vs p d sz xs hx' hp
    | false =>
      rw [e] at hx'
      exact h.gl f vs p d sz xs hx' hp
  · have hx' : ansL ((n, g) :: l) f vs = @Ans.pk p d x := hx
    simp only [ansL] at hx'
    cases e : Nat.beq n f with
    | true =>
      rw [e] at hx'
      rw [← Nat.eq_of_beq_eq_true e]
      exact hg3 vs p d x hx' hp
    | false =>
      rw [e] at hx'
      exact h.pk f vs p d x hx' hp
theorem env_in {n : Nat} {fn : Func} {m : MFn} {pl' : List (Nat × (List T → AnsP))} {l' : List (Nat × (List T → Ans))} {il' : List (Nat × Pt)} (h : EnvOk P (EnP pl gl l il)) (h' : EnvOk P (EnP pl' gl l' il')) (hf : P.funcs[n]? = some fn) (hm : lowFn P fn = some m) :
    EnvOk P (EnP pl gl l ((n, inl (EnP pl' gl l' il') m) :: il)) := by
  refine ⟨h.fn, h.gl, h.pk, fun f base args own R hi hR => ?_, h.pn⟩
  have hR' : ptL ((n, inl (EnP pl' gl l' il') m) :: il) f base args own R := hR
  have hi' : isL ((n, inl (EnP pl' gl l' il') m) :: il) f = true := hi
  simp only [ptL] at hR'
  simp only [isL] at hi'
  cases e : Nat.beq n f with
  | true =>
    rw [e] at hR'
    rw [← Nat.eq_of_beq_eq_true e]
    exact inl_ok h' hf hm hR'
  | false =>
    rw [e] at hR' hi'
    exact h.pt f base args own R hi' hR'
theorem env_flag {n : Nat} (h : EnvOk P (EnP pl gl l il)) : EnvOk P (EnP pl gl l ((n, ptNo) :: il)) := by
  refine ⟨h.fn, h.gl, h.pk, fun f base args own R hi hR => ?_, h.pn⟩
  have hR' : ptL ((n, ptNo) :: il) f base args own R := hR
  have hi' : isL ((n, ptNo) :: il) f = true := hi
  simp only [ptL] at hR'
  simp only [isL] at hi'
  cases e : Nat.beq n f with
  | true => rw [e] at hR'; exact hR'.elim
  | false =>
    rw [e] at hR' hi'
    exact h.pt f base args own R hi' hR'
end
theorem FnOk.eq {P : Program} {gl : Nat → Option (List T)} {f : FuncId} {vs : List T} {x y : T} (h : FnOk P gl f vs x) (e : x = y) : FnOk P gl f vs y := e ▸ h

theorem FnOk.args {P : Program} {gl : Nat → Option (List T)} {f : FuncId} {vs vs' : List T} {x : T} (h : FnOk P gl f vs x) (hl : vs'.length = vs.length)
    (hv : ∀ (i : Nat) (c c' : T), vs[i]? = some c → vs'[i]? = some c' → ∀ S w u, RelT S w c' u → RelT S w c u) : FnOk P gl f vs' x := by
  refine ⟨h.1, fun S w args hlt hgl hsz hrel => h.2 S w args hlt hgl (hsz.trans hl) fun i c u hc hu => ?_⟩
  have hi : i < vs'.length := by
    rw [hl]
    rcases Nat.lt_or_ge i vs.length with h | h
    · exact h
    · rw [List.getElem?_eq_none h] at hc; cases hc
  have e : vs'[i]? = some vs'[i] := by simp [hi]
  exact hv i c _ hc e S w u (hrel i _ u e hu)
theorem nil_list {S : Cells} {w : World} {u : Value} (sz : Nat) (h : RelT S w .nils u) : RelT S w (.list sz []) u := by
  cases h
  exact .list sz [] none 0 (fun _ _ => .nilFunc) (by simp) (fun h => absurd rfl h) (fun x hx => by cases hx) (fun i x hx => by simp at hx)
theorem FnOk.nil3 {P : Program} {gl : Nat → Option (List T)} {f : FuncId} {a b c x : T} (h : FnOk P gl f [a, b, c, .list 1 []] x) : FnOk P gl f [a, b, c, .nils] x := by
  refine h.args rfl fun i c1 c2 h1 h2 S w u hu => ?_
  rcases i with _ | _ | _ | _ | i
  · simp at h1 h2; subst h1; subst h2; exact hu
  · simp at h1 h2; subst h1; subst h2; exact hu
  · simp at h1 h2; subst h1; subst h2; exact hu
  · simp at h1 h2; subst h1; subst h2; exact nil_list 1 hu
  · simp at h1

theorem FnOk.nilA {P : Program} {gl : Nat → Option (List T)} {f : FuncId} {b x : T} (h : FnOk P gl f [.list 1 [], b] x) : FnOk P gl f [.nils, b] x := by
  refine h.args rfl fun i c1 c2 h1 h2 S w u hu => ?_
  rcases i with _ | _ | i
  · simp at h1 h2; subst h1; subst h2; exact nil_list 1 hu
  · simp at h1 h2; subst h1; subst h2; exact hu
  · simp at h1
theorem FnOk.nilB {P : Program} {gl : Nat → Option (List T)} {f : FuncId} {a x : T} (h : FnOk P gl f [a, .list 1 []] x) : FnOk P gl f [a, .nils] x := by
  refine h.args rfl fun i c1 c2 h1 h2 S w u hu => ?_
  rcases i with _ | _ | i
  · simp at h1 h2; subst h1; subst h2; exact hu
  · simp at h1 h2; subst h1; subst h2; exact nil_list 1 hu
  · simp at h1
theorem setK_mono {α : Type} {v : α} : ∀ {l : List α} {i : Nat} {K K' : List α → Prop}, (∀ s, K s → K' s) → setK l i v K → setK l i v K' := by
  intro l i K K' h hs
  obtain ⟨h1, h2⟩ := setK_elim hs
  exact setK_mk h1 (h _ h2)
theorem keepK_mono {m : List Nat} : ∀ {own : Own} {K K' : Own → Prop}, (∀ s, K s → K' s) → keepK m own K → keepK m own K'
  | [], K, K', h, hk => h _ hk
  | p :: r, K, K', h, hk => by
    obtain ⟨j, b⟩ := p
    simp only [keepK] at hk ⊢
    split at hk
    · exact keepK_mono h hk
    · exact keepK_mono (fun s hs => h _ hs) hk
theorem natK_mono {b : Bool} {K K' : Prop} (h : K → K') (hk : natK b K) : natK b K' := by
  obtain ⟨h1, h2⟩ := natK_elim hk
  subst h1; exact h h2
theorem pushK_mono {K K' : List Nat → Prop} (h : ∀ m, K m → K' m) : ∀ {l m : List Nat}, pushK l m K → pushK l m K'
  | [], m, hk => h m hk
  | x :: l, m, hk => by
    simp only [pushK] at hk ⊢
    split at hk
    · rename_i e; exact pushK_mono h hk
    · rename_i e; exact pushK_mono h hk
theorem reachK_mono {K K' : List Nat → Prop} (h : ∀ m, K m → K' m) : ∀ {own : Own} {m : List Nat}, reachK K own m → reachK K' own m
  | [], m, hk => h m hk
  | p :: l, m, hk => by
    unfold reachK at hk ⊢
    split at hk
    · exact reachK_mono h hk
    · exact pushK_mono (fun m' hm => reachK_mono h hm) hk
theorem marksK_mono {own0 : Own} {K K' : List Nat → Prop} (h : ∀ m, K m → K' m) : ∀ {own : Own} {m : List Nat}, marksK own0 K own m → marksK own0 K' own m
  | [], m, hk => h m hk
  | p :: l, m, hk => by
    unfold marksK at hk ⊢
    exact reachK_mono (fun m' hm => marksK_mono h hm) hk
theorem nz1_mono {prot : List Nat} {z : Nz} {st : St} {K K' : St → Prop} (h : ∀ s, K s → K' s) (hz : nz1K prot z st K) : nz1K prot z st K' := by
  obtain ⟨tm, own⟩ := st
  cases z with
  | kill i => exact setK_mono (fun s hs => h _ hs) hz
  | gc => exact pushK_mono (fun m hm => marksK_mono (fun m hm => natK_mono (natK_mono (keepK_mono fun s hs => h _ hs)) hm) hm) hz
  | ren k k0 =>
    refine natK_mono (fun hz => ?_) hz
    obtain ⟨h1, h2⟩ := freshK_elim hz
    exact freshK_mk h1 (h _ h2)
  | keep m => exact natK_mono (natK_mono (keepK_mono fun s hs => h _ hs)) hz
  | set k =>
    obtain ⟨b, hb, hz⟩ := lkupK_elim hz
    refine lkupK_mk hb ?_
    split at hz
    · exact updK_mk hb (h _ (updK_elim hz))
    · exact hz.elim
  | adopt i k sz =>
    obtain ⟨v, hv, hz⟩ := getK_elim hz
    refine getK_mk hv ?_
    split at hz
    · obtain ⟨h1, h2⟩ := freshK_elim hz
      exact freshK_mk h1 (setK_mono (fun s hs => h _ hs) h2)
    · obtain ⟨h1, h2⟩ := freshK_elim hz
      exact freshK_mk h1 (setK_mono (fun s hs => h _ hs) h2)
    · exact hz.elim
theorem nz_mono {prot : List Nat} {K K' : St → Prop} (h : ∀ s, K s → K' s) : ∀ {zs : List Nz} {st : St}, nzK prot zs st K → nzK prot zs st K'
  | [], st, hz => h _ hz
  | z :: r, st, hz => nz1_mono (fun s hs => nz_mono h hs) hz
theorem least_of {Q : Nat → Prop} : ∀ n, Q n → ∃ m, Q m ∧ ∀ k, Q k → m ≤ k := by
  intro n
  induction n using Nat.strongRecOn with
  | ind n ih =>
    intro h
    by_cases c : ∃ k, k < n ∧ Q k
    · obtain ⟨k, h1, h2⟩ := c; exact ih k h1 h2
    · refine ⟨n, h, fun k hk => ?_⟩
      rcases Nat.lt_or_ge k n with h3 | h3
      · exact (c ⟨k, h3, hk⟩).elim
      · exact h3
open Classical in
theorem loopAt {α : Type} {prot : List Nat} {W : St → (Ex → St → Prop) → Prop} {st : St} {K : Ex → St → Prop} (n1 n2 : List Nz) (S : α → St) (J : α → Prop) (m : α → Nat) (a0 : α) (hJ : J a0) (h0 : nzK prot n1 st fun s => s = S a0)
    (h : ∀ a, J a → ∀ C : St → Prop, (∀ b, J b → m b < m a → C (S b)) → W (S a) fun e s' => match e with
      | .normal => nzK prot n2 s' C
      | e => K e s') : loopK prot W st K := by
  unfold loopK
  let Q : St → Nat → Prop := fun s n => ∃ a, J a ∧ s = S a ∧ m a = n
  let I : St → Prop := fun s => ∃ n, Q s n
  have hl : ∀ s, I s → ∃ n, Q s n ∧ ∀ k, Q s k → n ≤ k := fun s ⟨n, hn⟩ => least_of n hn
  let μ : St → Nat := fun s => if hx : I s then Classical.choose (hl s hx) else 0
  have hμ : ∀ s (hx : I s), Q s (μ s) ∧ ∀ k, Q s k → μ s ≤ k := fun s hx => by
    simp only [μ, dif_pos hx]; exact Classical.choose_spec (hl s hx)
  refine ⟨n1, fun _ => n2, I, μ, nz_mono (fun s e => ⟨_, a0, hJ, e, rfl⟩) h0, fun s hs => ?_⟩
  obtain ⟨⟨a, h1, h2, h3⟩, _⟩ := hμ s hs
  subst h2
  refine h a h1 (fun s'' => I s'' ∧ μ s'' < μ (S a)) fun b hb hlt => ?_
  have hb' : I (S b) := ⟨_, b, hb, rfl, rfl⟩
  refine ⟨hb', ?_⟩
  have := (hμ _ hb').2 (m b) ⟨b, hb, rfl, rfl⟩
  omega
def setL (tm : List V) : List (Nat × V) → List V
  | [] => tm
  | p :: r => setL (tm.set p.1 p.2) r
open Classical in
theorem loopSet {α : Type} {prot : List Nat} {W : St → (Ex → St → Prop) → Prop} {st : St} {K : Ex → St → Prop} (n1 n2 : List Nz) (f : α → List (Nat × V)) (o : α → Own) (J : α → Prop) (m : α → Nat) (a0 : α) (hJ : J a0)
    (h : nzK prot n1 st fun s => (s.tm = setL s.tm (f a0) ∧ s.own = o a0) ∧ ∀ a, J a → ∀ C : St → Prop, (∀ b, J b → m b < m a → C ⟨setL s.tm (f b), o b⟩) → W ⟨setL s.tm (f a), o a⟩ fun e s' => match e with
      | .normal => nzK prot n2 s' C
      | e => K e s') : loopK prot W st K := by
  unfold loopK
  let G : List V → Prop := fun tm => ∀ a, J a → ∀ C : St → Prop, (∀ b, J b → m b < m a → C ⟨setL tm (f b), o b⟩) → W ⟨setL tm (f a), o a⟩ fun e s' => match e with
      | .normal => nzK prot n2 s' C
      | e => K e s'
  let Q : St → Nat → Prop := fun s n => ∃ tm a, G tm ∧ J a ∧ s = ⟨setL tm (f a), o a⟩ ∧ m a = n
  let I : St → Prop := fun s => ∃ n, Q s n
  have hl : ∀ s, I s → ∃ n, Q s n ∧ ∀ k, Q s k → n ≤ k := fun s ⟨n, hn⟩ => least_of n hn
  let μ : St → Nat := fun s => if hx : I s then Classical.choose (hl s hx) else 0
  have hμ : ∀ s (hx : I s), Q s (μ s) ∧ ∀ k, Q s k → μ s ≤ k := fun s hx => by
    simp only [μ, dif_pos hx]; exact Classical.choose_spec (hl s hx)
  refine ⟨n1, fun _ => n2, I, μ, nz_mono (fun s e => ⟨_, s.tm, a0, e.2, hJ, by
    obtain ⟨⟨e1, e2⟩, _⟩ := e
    obtain ⟨tm, own⟩ := s
    simp only at e1 e2 ⊢
    rw [← e1, e2], rfl⟩) h, fun s hs => ?_⟩
  obtain ⟨⟨tm, a, hG, h1, h2, h3⟩, _⟩ := hμ s hs
  subst h2
  refine hG a h1 (fun s'' => I s'' ∧ μ s'' < μ ⟨setL tm (f a), o a⟩) fun b hb hlt => ?_
  have hb' : I ⟨setL tm (f b), o b⟩ := ⟨_, tm, b, hG, hb, rfl, rfl⟩
  refine ⟨hb', ?_⟩
  have := (hμ _ hb').2 (m b) ⟨tm, b, hG, hb, rfl, rfl⟩
  omega
def putO (k : Nat) (b : Blk) : Own → Own
  | [] => []
  | p :: r => match p with
    | (j, c) => match Nat.beq j k with
      | true => (j, b) :: r
      | false => (j, c) :: putO k b r
def setO (own : Own) : List (Nat × Blk) → Own
  | [] => own
  | p :: r => setO (putO p.1 p.2 own) r
theorem loopUp {α : Type} {prot : List Nat} {W : St → (Ex → St → Prop) → Prop} {st : St} {K : Ex → St → Prop} (n1 n2 : List Nz) (f : α → List (Nat × V)) (g : α → List (Nat × Blk)) (J : α → Prop) (m : α → Nat) (a0 : α) (hJ : J a0)
    (h : nzK prot n1 st fun s => (s.tm = setL s.tm (f a0) ∧ s.own = setO s.own (g a0)) ∧ ∀ a, J a → ∀ C : St → Prop, (∀ b, J b → m b < m a → C ⟨setL s.tm (f b), setO s.own (g b)⟩) → W ⟨setL s.tm (f a), setO s.own (g a)⟩ fun e s' => match e with
      | .normal => nzK prot n2 s' C
      | e => K e s') : loopK prot W st K := by
  unfold loopK
  let G : St → Prop := fun s => ∀ a, J a → ∀ C : St → Prop, (∀ b, J b → m b < m a → C ⟨setL s.tm (f b), setO s.own (g b)⟩) → W ⟨setL s.tm (f a), setO s.own (g a)⟩ fun e s' => match e with
      | .normal => nzK prot n2 s' C
      | e => K e s'
  let Q : St → Nat → Prop := fun s n => ∃ t a, G t ∧ J a ∧ s = ⟨setL t.tm (f a), setO t.own (g a)⟩ ∧ m a = n
  let I : St → Prop := fun s => ∃ n, Q s n
  have hl : ∀ s, I s → ∃ n, Q s n ∧ ∀ k, Q s k → n ≤ k := fun s ⟨n, hn⟩ => least_of n hn
  classical
  let μ : St → Nat := fun s => if hx : I s then Classical.choose (hl s hx) else 0
  have hμ : ∀ s (hx : I s), Q s (μ s) ∧ ∀ k, Q s k → μ s ≤ k := fun s hx => by
    simp only [μ, dif_pos hx]; exact Classical.choose_spec (hl s hx)
  refine ⟨n1, fun _ => n2, I, μ, nz_mono (fun s e => ⟨_, s, a0, e.2, hJ, by
    obtain ⟨⟨e1, e2⟩, _⟩ := e
    obtain ⟨tm, own⟩ := s
    simp only at e1 e2 ⊢
    rw [← e1, ← e2], rfl⟩) h, fun s hs => ?_⟩
  obtain ⟨⟨t, a, hG, h1, h2, h3⟩, _⟩ := hμ s hs
  subst h2
  refine hG a h1 (fun s'' => I s'' ∧ μ s'' < μ ⟨setL t.tm (f a), setO t.own (g a)⟩) fun b hb hlt => ?_
  have hb' : I ⟨setL t.tm (f b), setO t.own (g b)⟩ := ⟨_, t, b, hG, hb, rfl, rfl⟩
  refine ⟨hb', ?_⟩
  have := (hμ _ hb').2 (m b) ⟨t, b, hG, hb, rfl, rfl⟩
  omega
def nzIf (k : Nat) (s : St) (a b : List Nz) : List Nz := match notIn k (keysOf s.own) with
  | true => b
  | false => a
theorem loopFn {α : Type} {prot : List Nat} {W : St → (Ex → St → Prop) → Prop} {st : St} {K : Ex → St → Prop} (n1 : List Nz) (n2 : St → List Nz) (f : α → List (Nat × V)) (o : α → Own) (J : α → Prop) (m : α → Nat) (a0 : α) (hJ : J a0)
    (h : nzK prot n1 st fun s => (s.tm = setL s.tm (f a0) ∧ s.own = o a0) ∧ ∀ a, J a → ∀ C : St → Prop, (∀ b, J b → m b < m a → C ⟨setL s.tm (f b), o b⟩) → W ⟨setL s.tm (f a), o a⟩ fun e s' => match e with
      | .normal => nzK prot (n2 s') s' C
      | e => K e s') : loopK prot W st K := by
  unfold loopK
  let G : List V → Prop := fun tm => ∀ a, J a → ∀ C : St → Prop, (∀ b, J b → m b < m a → C ⟨setL tm (f b), o b⟩) → W ⟨setL tm (f a), o a⟩ fun e s' => match e with
      | .normal => nzK prot (n2 s') s' C
      | e => K e s'
  let Q : St → Nat → Prop := fun s n => ∃ tm a, G tm ∧ J a ∧ s = ⟨setL tm (f a), o a⟩ ∧ m a = n
  let I : St → Prop := fun s => ∃ n, Q s n
  have hl : ∀ s, I s → ∃ n, Q s n ∧ ∀ k, Q s k → n ≤ k := fun s ⟨n, hn⟩ => least_of n hn
  classical
  let μ : St → Nat := fun s => if hx : I s then Classical.choose (hl s hx) else 0
  have hμ : ∀ s (hx : I s), Q s (μ s) ∧ ∀ k, Q s k → μ s ≤ k := fun s hx => by
    simp only [μ, dif_pos hx]; exact Classical.choose_spec (hl s hx)
  refine ⟨n1, n2, I, μ, nz_mono (fun s e => ⟨_, s.tm, a0, e.2, hJ, by
    obtain ⟨⟨e1, e2⟩, _⟩ := e
    obtain ⟨tm, own⟩ := s
    simp only at e1 e2 ⊢
    rw [← e1, e2], rfl⟩) h, fun s hs => ?_⟩
  obtain ⟨⟨tm, a, hG, h1, h2, h3⟩, _⟩ := hμ s hs
  subst h2
  refine hG a h1 (fun s'' => I s'' ∧ μ s'' < μ ⟨setL tm (f a), o a⟩) fun b hb hlt => ?_
  have hb' : I ⟨setL tm (f b), o b⟩ := ⟨_, tm, b, hG, hb, rfl, rfl⟩
  refine ⟨hb', ?_⟩
  have := (hμ _ hb').2 (m b) ⟨tm, b, hG, hb, rfl, rfl⟩
  omega
theorem loopC {C : St → Prop} {s s' : St} (h : C s) (e : s = s') : C s' := e ▸ h

def T.n : T → Int
  | .int _ n => n
  | _ => 0
def nums (xs : List T) : List Int := xs.map T.n
def us (l : List Int) : List T := l.map (T.int .u64)
def is (l : List Int) : List T := l.map (T.int .i64)
def bs (l : List Int) : List T := l.map (T.int .u8)
def R8 (s : Int) : Prop := 0 ≤ s ∧ s ≤ 255
def IsU (xs : List T) : Prop := ∃ l, xs = us l ∧ ∀ n ∈ l, R64 n
def IsI (xs : List T) : Prop := ∃ l, xs = is l ∧ ∀ n ∈ l, I64 n
def IsB (xs : List T) : Prop := ∃ l, xs = bs l ∧ ∀ n ∈ l, R8 n
@[simp] theorem nums_us (l : List Int) : nums (us l) = l := by simp [nums, us, T.n, Function.comp_def]
@[simp] theorem nums_is (l : List Int) : nums (is l) = l := by simp [nums, is, T.n, Function.comp_def]
@[simp] theorem nums_bs (l : List Int) : nums (bs l) = l := by simp [nums, bs, T.n, Function.comp_def]
@[simp] theorem us_len (l : List Int) : (us l).length = l.length := by simp [us]
@[simp] theorem is_len (l : List Int) : (is l).length = l.length := by simp [is]
@[simp] theorem bs_len (l : List Int) : (bs l).length = l.length := by simp [bs]
theorem us_ne {l : List Int} (h : 0 < l.length) : us l ≠ [] := by cases l <;> simp [us] at *
theorem is_ne {l : List Int} (h : 0 < l.length) : is l ≠ [] := by cases l <;> simp [is] at *
theorem us_get {l : List Int} {i : Nat} (h : i < l.length) : (us l)[i]? = some (.int .u64 (l[i]?.getD 0)) := by simp [us, h]
theorem is_get {l : List Int} {i : Nat} (h : i < l.length) : (is l)[i]? = some (.int .i64 (l[i]?.getD 0)) := by simp [is, h]
theorem bs_get {l : List Int} {i : Nat} (h : i < l.length) : (bs l)[i]? = some (.int .u8 (l[i]?.getD 0)) := by simp [bs, h]
theorem us_set (l : List Int) (i : Nat) (n : Int) : (us l).set i (.int .u64 n) = us (l.set i n) := by simp [us, List.map_set]
theorem is_set (l : List Int) (i : Nat) (n : Int) : (is l).set i (.int .i64 n) = is (l.set i n) := by simp [is, List.map_set]
theorem us_app (a b : List Int) : us a ++ us b = us (a ++ b) := by simp [us]
theorem is_app (a b : List Int) : is a ++ is b = is (a ++ b) := by simp [is]
theorem isU_us {l : List Int} (h : ∀ n ∈ l, R64 n) : IsU (us l) := ⟨l, rfl, h⟩
theorem isI_is {l : List Int} (h : ∀ n ∈ l, I64 n) : IsI (is l) := ⟨l, rfl, h⟩
@[simp] theorem subL_00 (ts : List T) : subL ts 0 none = ts := rfl
@[simp] theorem lenL_00 (ts : List T) : lenL ts 0 none = ts.length := rfl
@[simp] theorem natadd0 (n : Nat) : Nat.add 0 n = n := Nat.zero_add n
def at0 (l : List Int) (i : Int) : Int := l[i.toNat]?.getD 0
theorem at0_mem {l : List Int} {i : Int} (h : i.toNat < l.length) : at0 l i ∈ l := by simp [at0, h]
theorem nth_us {l : List Int} {i : Int} {K : T → Prop} (h0 : 0 ≤ i) (h1 : i < l.length) (h : K (.int .u64 (at0 l i))) : nthK (us l) i K :=
  nthK_of (.int .u64 (at0 l i)) h0 (us_get (by omega)) h
theorem nth_is {l : List Int} {i : Int} {K : T → Prop} (h0 : 0 ≤ i) (h1 : i < l.length) (h : K (.int .i64 (at0 l i))) : nthK (is l) i K :=
  nthK_of (.int .i64 (at0 l i)) h0 (is_get (by omega)) h
theorem nth_bs {l : List Int} {i : Int} {K : T → Prop} (h0 : 0 ≤ i) (h1 : i < l.length) (h : K (.int .u8 (at0 l i))) : nthK (bs l) i K :=
  nthK_of (.int .u8 (at0 l i)) h0 (bs_get (by omega)) h
theorem fx : (∀ a : Bool, (!a) = true ↔ a = false) ∧ (∀ a : Bool, (!a) = false ↔ a = true) ∧ (∀ a b : Int, ltI a b = true ↔ a < b) ∧ (∀ a b : Int, ltI a b = false ↔ b ≤ a) ∧ (∀ a b : Int, leI a b = true ↔ a ≤ b) ∧ (∀ a b : Int, leI a b = false ↔ b < a) ∧
    (∀ a b : Int, eqI a b = true ↔ a = b) ∧ (∀ a b : Int, eqI a b = false ↔ a ≠ b) ∧ (∀ l : List Int, (us l).length = l.length) ∧ (∀ l : List Int, (is l).length = l.length) ∧ (∀ l : List Int, (bs l).length = l.length) ∧ (∀ ts : List T, lenL ts 0 none = ts.length) :=
  ⟨fun _ => not_t, fun _ => not_f, fun _ _ => lt_t, fun _ _ => lt_f, fun _ _ => le_t, fun _ _ => le_f, fun _ _ => eq_t, fun _ _ => eq_f, us_len, is_len, bs_len, lenL_00⟩
end Go.Nx
end
section
set_option linter.unusedVariables false
namespace Go.Nx
open Go.RowKit

section
variable {R : Type}
def getE {α : Type} : List α → Nat → (α → Option R) → Option R
  | [], _, _ => none
  | x :: _, 0, k => k x
  | _ :: r, n + 1, k => getE r n k
def setE {α : Type} : List α → Nat → α → (List α → Option R) → Option R
  | [], _, _, _ => none
  | _ :: r, 0, v, k => k (v :: r)
  | x :: r, n + 1, v, k => setE r n v fun r' => k (x :: r')
def lkupE (j : Nat) : Own → (Blk → Option R) → Option R
  | [], _ => none
  | p :: r, k => match p with
    | (i, b) => match Nat.beq i j with
      | true => k b
      | false => lkupE j r k
def updE (j : Nat) (b : Blk) : Own → (Own → Option R) → Option R
  | [], _ => none
  | p :: r, k => match p with
    | (i, c) => match Nat.beq i j with
      | true => k ((i, b) :: r)
      | false => updE j b r fun r' => k ((i, c) :: r')
def freshE (j : Nat) : Own → Option R → Option R
  | [], k => k
  | p :: r, k => match p with
    | (i, _) => match Nat.beq i j with
      | true => none
      | false => freshE j r k
def evE (gl : Nat → Option (List T)) (tm : List V) (x : Opd) (k : V → Option R) : Option R := match x with
  | .t i => getE tm i k
  | .k x => k (.t x)
  | .g i => match gl i with
    | some cs => k (.t (.ref cs))
    | none => none
def evsE (gl : Nat → Option (List T)) (tm : List V) : List Opd → (List V → Option R) → Option R
  | [], k => k []
  | x :: r, k => evE gl tm x fun v => evsE gl tm r fun l => k (v :: l)
def putE (st : St) (d : Option Nat) (v : V) (k : St → Option R) : Option R := match d with
  | none => k st
  | some d => match st with
    | ⟨tm, own⟩ => setE tm d v fun tm' => k ⟨tm', own⟩
def tagE : List T → (List V → Option R) → Option R
  | [], k => k []
  | x :: r, k => tagE r fun l => k (.t x :: l)
def lenE {α : Type} : List α → Nat → Option R → Option R
  | [], 0, k => k
  | _ :: r, n + 1, k => lenE r n k
  | _, _, _ => none
def natE (b : Bool) (k : Option R) : Option R := match b with
  | true => k
  | false => none

variable {r : R}
theorem getE_ok {α : Type} {l : List α} {n : Nat} {k : α → Option R} {K : α → Prop} (hk : ∀ x, k x = some r → K x) (h : getE l n k = some r) : getK l n K := by
  induction l generalizing n with
  | nil => cases n <;> cases h
  | cons x l ih => cases n with
    | zero => exact hk _ h
    | succ n => exact ih (n := n) h
theorem setE_ok {α : Type} {v : α} {l : List α} {n : Nat} {k : List α → Option R} {K : List α → Prop} (hk : ∀ x, k x = some r → K x) (h : setE l n v k = some r) : setK l n v K := by
  induction l generalizing n k K with
  | nil => cases n <;> cases h
  | cons x l ih => cases n with
    | zero => exact hk _ h
    | succ n => exact ih (n := n) (k := fun r' => k (x :: r')) (fun y hy => hk _ hy) h
theorem lkupE_ok {j : Nat} {own : Own} {k : Blk → Option R} {K : Blk → Prop} (hk : ∀ x, k x = some r → K x) (h : lkupE j own k = some r) : lkupK j own K := by
  induction own with
  | nil => cases h
  | cons p l ih =>
    obtain ⟨i, b⟩ := p
    simp only [lkupE] at h
    simp only [lkupK]
    split at h
    · rename_i e; rw [e]; exact hk _ h
    · rename_i e; rw [e]; exact ih h
theorem updE_ok {j : Nat} {b : Blk} {own : Own} {k : Own → Option R} {K : Own → Prop} (hk : ∀ x, k x = some r → K x) (h : updE j b own k = some r) : updK j b own K := by
  induction own generalizing k K with
  | nil => cases h
  | cons p l ih =>
    obtain ⟨i, c⟩ := p
    simp only [updE] at h
    simp only [updK]
    split at h
    · rename_i e; rw [e]; exact hk _ h
    · rename_i e; rw [e]; exact ih (k := fun r' => k ((i, c) :: r')) (fun y hy => hk _ hy) h
theorem freshE_ok {j : Nat} {own : Own} {k : Option R} {K : Prop} (hk : k = some r → K) (h : freshE j own k = some r) : freshK j own K := by
  induction own with
  | nil => exact hk h
  | cons p l ih =>
    obtain ⟨i, b⟩ := p
    simp only [freshE] at h
    simp only [freshK]
    split at h
    · cases h
    · rename_i e; rw [e]; exact ih h
theorem evE_ok {Γ : Env} {tm : List V} {x : Opd} {k : V → Option R} {K : V → Prop} (hk : ∀ x, k x = some r → K x) (h : evE Γ.gl tm x k = some r) : evK Γ tm x K := by
  cases x with
  | t i => exact getE_ok hk h
  | k x => exact hk _ h
  | g i =>
    simp only [evE] at h
    simp only [evK]
    split at h
    · rename_i e; rw [e]; exact hk _ h
    · cases h
theorem evsE_ok {Γ : Env} {tm : List V} {xs : List Opd} {k : List V → Option R} {K : List V → Prop} (hk : ∀ x, k x = some r → K x) (h : evsE Γ.gl tm xs k = some r) : evsK Γ tm xs K := by
  induction xs generalizing k K with
  | nil => exact hk _ h
  | cons x xs ih => exact evE_ok (k := fun v => evsE Γ.gl tm xs fun l => k (v :: l)) (fun v hv => ih (k := fun l => k (v :: l)) (fun y hy => hk _ hy) hv) h
theorem putE_ok {st : St} {d : Option Nat} {v : V} {k : St → Option R} {K : St → Prop} (hk : ∀ x, k x = some r → K x) (h : putE st d v k = some r) : putK st d v K := by
  cases d with
  | none => exact hk _ h
  | some d =>
    obtain ⟨tm, own⟩ := st
    exact setE_ok (k := fun tm' => k ⟨tm', own⟩) (fun y hy => hk _ hy) h
theorem tagE_ok {l : List T} {k : List V → Option R} {K : List V → Prop} (hk : ∀ x, k x = some r → K x) (h : tagE l k = some r) : tagK l K := by
  induction l generalizing k K with
  | nil => exact hk _ h
  | cons x l ih => exact ih (k := fun l => k (.t x :: l)) (fun y hy => hk _ hy) h
theorem lenE_ok {α : Type} {l : List α} {n : Nat} {k : Option R} {K : Prop} (hk : k = some r → K) (h : lenE l n k = some r) : lenK l n K := by
  induction l generalizing n with
  | nil => cases n with
    | zero => exact hk h
    | succ n => cases h
  | cons x l ih => cases n with
    | zero => cases h
    | succ n => exact ih (n := n) h
theorem natE_ok {b : Bool} {k : Option R} {K : Prop} (hk : k = some r → K) (h : natE b k = some r) : natK b K := by
  cases b with
  | true => exact hk h
  | false => cases h

def nthE (xs : List T) (i : Int) (k : T → Option R) : Option R := match i with
  | .ofNat n => getE xs n k
  | .negSucc _ => none
theorem nthE_ok {xs : List T} {i : Int} {k : T → Option R} {K : T → Prop} (hk : ∀ x, k x = some r → K x) (h : nthE xs i k = some r) : nthK xs i K := by
  cases i with
  | ofNat n =>
    obtain ⟨x, h1, h2⟩ := getK_elim (getE_ok hk h)
    exact nthK_of x (Int.natCast_nonneg n) h1 h2
  | negSucc n => cases h
abbrev RunE (R : Type) := Own → Log → (V → Own → Log → Option R) → Option R
noncomputable def evP (dr : Bool) (p : Pg) : RunE R :=
  Pg.rec (motive := fun _ => RunE R)
    (fun v own log k => k v own log)
    (fun own log k => none)
    (fun j _ ih own log k => lkupE j own fun b => ih b own ((j, false) :: log) k)
    (fun j b _ ih own log k => updE j b own fun own' => ih own' ((j, true) :: log) k)
    (fun j b _ ih own log k => freshE j own (ih ((j, b) :: own) ((j, true) :: log) k))
    (fun c d _ ih own log k => match d with
      | .isTrue _ => ih own log k
      | .isFalse _ => none)
    (fun b _ _ ihp ihq own log k => match b with
      | true => ihp own log k
      | false => ihq own log k)
    (fun xs i _ ih own log k => nthE xs i fun x => ih x own log k)
    (fun c d _ _ ihp ihq own log k => match dr with
      | true => none
      | false => match d with
        | .isTrue _ => none
        | .isFalse _ => ihp own log k) p
theorem evP_ok {dr : Bool} {p : Pg} : ∀ {own : Own} {log : Log} {k : V → Own → Log → Option R} {K : V → Own → Log → Prop}, (∀ v o l, k v o l = some r → K v o l) → evP dr p own log k = some r → run dr p own log K := by
  induction p with
  | ret v => intro own log k K hk h; exact hk _ _ _ h
  | no => intro own log k K hk h; cases h
  | rd j f ih => intro own log k K hk h; rw [run_rd]; exact lkupE_ok (k := fun b => evP dr (f b) own ((j, false) :: log) k) (fun b hb => ih b hk hb) h
  | wr j b p ih => intro own log k K hk h; rw [run_wr]; exact updE_ok (k := fun own' => evP dr p own' ((j, true) :: log) k) (fun b hb => ih hk hb) h
  | new j b p ih => intro own log k K hk h; rw [run_new]; exact freshE_ok (k := evP dr p ((j, b) :: own) ((j, true) :: log) k) (fun hb => ih hk hb) h
  | @req c d p ih =>
    intro own log k K hk h
    rw [run_req]
    cases d with
    | isTrue hc => exact reqK_of hc (ih hk h)
    | isFalse hc => cases (show (none : Option R) = some r from h)
  | br b p q ihp ihq =>
    intro own log k K hk h
    rw [run_br]
    cases b with
    | true => exact brK_true rfl (ihp hk h)
    | false => exact brK_false rfl (ihq hk h)
  | nth xs i f ih => intro own log k K hk h; rw [run_nth]; exact nthE_ok (k := fun x => evP dr (f x) own log k) (fun b hb => ih b hk hb) h
  | @alt c d p q ihp ihq =>
    intro own log k K hk h
    rw [run_alt]
    cases dr with
    | true => cases (show (none : Option R) = some r from h)
    | false => cases d with
      | isTrue hc => cases (show (none : Option R) = some r from h)
      | isFalse hc => exact altK_of (ihp hk h) (fun e => absurd e hc)

structure EnvE where
  fn : Nat → List T → Ans
  gl : Nat → Option (List T)
  isI : Nat → Bool
  pt : Nat → Nat → List V → Own → Option (V × Own)
def calleeE (v : V) (k : Nat → List V → List V → Option R) : Option R := match v with
  | .t (.fn (.func n) first caps) => tagE first fun a => tagE caps fun b => k n a b
  | .fn (.func n) first caps => k n first caps
  | _ => none
theorem calleeE_ok {v : V} {k : Nat → List V → List V → Option R} {K : Nat → List V → List V → Prop} (hk : ∀ n a b, k n a b = some r → K n a b) (h : calleeE v k = some r) : calleeK v K := by
  unfold calleeE at h
  split at h
  · rename_i n first caps
    exact tagE_ok (k := fun a => tagE caps fun b => k n a b) (fun a ha => tagE_ok (k := fun b => k n a b) (fun b hb => hk _ _ _ hb) ha) h
  · exact hk _ _ _ h
  · cases h
def ansOf (x : Option T) : Ans := match x with
  | some x => .yes x
  | none => .no
def pkOf (x : Option T) : Ans := match x with
  | some x => .pk True x
  | none => .no
def EnvE.env (E : EnvE) (base : Nat) (prot : List Nat) : Env := ⟨fun n ts => E.fn n ts, E.gl, base, prot, E.isI, fun n b args own R => ∃ v own', E.pt n b args own = some (v, own') ∧ R v own', fun _ => false, []⟩
noncomputable def stepE (E : EnvE) (base : Nat) (dr : Bool) (d : Option Nat) (st : St) (op : MK) (k : St → Log → Option R) : Option R := match st with
  | ⟨tm, own⟩ => evsE E.gl tm (opds op) fun vs => match op with
    | .call key _ _ => match vs with
      | [] => none
      | fv :: args => calleeE fv fun n first caps => match inlQ (E.isI n) dr with
        | true => match E.pt n (Nat.mul (keyB base key) 1024) (first ++ (args ++ caps)) own with
          | some (v, own') => putE ⟨tm, own'⟩ d v fun st => k st []
          | none => none
        | false => evP dr (callP (E.fn n) (first ++ (args ++ caps)) (keyB base key)) own [] fun v own' log => putE ⟨tm, own'⟩ d v fun st => k st log
    | op => evP dr (prog base op vs) own [] fun v own' log => putE ⟨tm, own'⟩ d v fun st => k st log
theorem stepE_ok {E : EnvE} {base : Nat} {prot : List Nat} {dr : Bool} {d : Option Nat} {st : St} {op : MK} {k : St → Log → Option R} {K : St → Log → Prop} (hk : ∀ s l, k s l = some r → K s l) (h : stepE E base dr d st op k = some r) :
    stepK (E.env base prot) dr d st op K := by
  obtain ⟨tm, own⟩ := st
  unfold stepE at h
  unfold stepK
  refine evsE_ok (Γ := E.env base prot) (fun vs hv => ?_) h
  have other : ∀ op, evP dr (prog base op vs) own [] (fun v own' log => putE ⟨tm, own'⟩ d v fun st => k st log) = some r → run dr (prog (E.env base prot).base op vs) own [] fun v own' log => putK ⟨tm, own'⟩ d v fun st => K st log :=
    fun op h => evP_ok (fun v o l hl => putE_ok (fun s hs => hk _ _ hs) hl) h
  cases op with
  | call key f as =>
    cases vs with
    | nil => cases hv
    | cons fv args =>
      refine calleeE_ok (k := fun n first caps => _) (fun n first caps hn => ?_) hv
      cases e : inlQ (E.isI n) dr with
      | true =>
        have e' : inlQ ((E.env base prot).isI n) dr = true := e
        rw [e] at hn
        rw [e']
        dsimp only at hn ⊢
        split at hn
        · rename_i v own' h2
          exact ⟨v, own', h2, putE_ok (fun s hs => hk _ _ hs) hn⟩
        · cases hn
      | false =>
        have e' : inlQ ((E.env base prot).isI n) dr = false := e
        have e2 : inlD ((E.env base prot).isI n) ((E.env base prot).isD n) dr = false := by
          show inlD (E.isI n) false dr = false
          cases E.isI n <;> rfl
        rw [e] at hn
        rw [e']
        dsimp only
        rw [e2]
        exact evP_ok (fun v o l hl => putE_ok (fun s hs => hk _ _ hs) hl) hn
  | _ => exact other _ hv

theorem getK_mono {α : Type} : ∀ {l : List α} {n : Nat} {K K' : α → Prop}, (∀ v, K v → K' v) → getK l n K → getK l n K'
  | [], _, _, _, _, h => h.elim
  | _ :: _, 0, _, _, hk, h => hk _ h
  | _ :: r, n + 1, _, _, hk, h => getK_mono (l := r) (n := n) hk h
theorem evK_mono {Γ : Env} {tm : List V} {x : Opd} {K K' : V → Prop} (hk : ∀ v, K v → K' v) (h : evK Γ tm x K) : evK Γ tm x K' := by
  cases x with
  | t i => exact getK_mono hk h
  | k c => exact hk _ h
  | g i =>
    unfold evK at h ⊢
    dsimp only at h ⊢
    split at h
    · rename_i cs hc
      try rw [hc]
      exact hk _ h
    · exact h.elim
theorem stepP_of {E : EnvE} {base : Nat} {prot : List Nat} {d : Option Nat} {st : St} {op : MK} {K : Ex → St → Prop} (h : stepK (E.env base prot) false d st op fun st _ => K .normal st) : stepP (E.env base prot) d st op K := by
  obtain ⟨tm, own⟩ := st
  cases op with
  | call key f as => exact h
  | pan x =>
    unfold stepK at h
    obtain ⟨vs, _, _, h⟩ := evsK_elim h
    have e : prog (E.env base prot).base (.pan x) vs = .no := by unfold prog; rfl
    dsimp only at h
    rw [e] at h
    exact h.elim
  | tas t z ok x =>
    cases ok with
    | true => exact h
    | false =>
      have h' : evK (E.env base prot) tm x fun v => run false (prog (E.env base prot).base (.tas t z false x) [v]) own [] fun v own' log => putK ⟨tm, own'⟩ d v fun st => K .normal st := h
      have h0 := h
      refine evK_mono (fun v hv => ?_) h'
      cases v with
      | t y =>
        cases y with
        | ifc t' y =>
          simp only [prog] at hv
          unfold natP at hv
          dsimp only
          split at hv
          · exact h0
          · exact hv.elim
        | _ => simp only [prog] at hv; exact hv.elim
      | _ => simp only [prog] at hv; exact hv.elim
  | _ => exact h

noncomputable def opsE (E : EnvE) (base : Nat) (ops : List MOp) : St → (St → Option R) → Option R :=
  List.rec (motive := fun _ => St → (St → Option R) → Option R) (fun st k => k st)
    (fun o _ ih st k => match o with
      | ⟨d, op, g⟩ => match g with
        | none => stepE E base false d st op fun st _ => ih st k
        | some p => match p with
          | (t, want) => match st with
            | ⟨tm, own⟩ => getE tm t fun v => match v with
              | .t (.bool b) => match want with
                | true => match b with
                  | true => stepE E base false d ⟨tm, own⟩ op fun st _ => ih st k
                  | false => putE ⟨tm, own⟩ d (.t .undef) fun st => ih st k
                | false => match b with
                  | true => putE ⟨tm, own⟩ d (.t .undef) fun st => ih st k
                  | false => stepE E base false d ⟨tm, own⟩ op fun st _ => ih st k
              | .t (.tup _) => putE ⟨tm, own⟩ d (.t .undef) fun st => ih st k
              | _ => none) ops
theorem opsE_ok {E : EnvE} {base : Nat} {prot : List Nat} {ops : List MOp} : ∀ {st : St} {k : St → Option R} {K : Ex → St → Prop}, (∀ s, k s = some r → K .normal s) → opsE E base ops st k = some r → runOps (E.env base prot) ops st K := by
  induction ops with
  | nil => intro st k K hk h; exact hk _ h
  | cons o ops ih =>
    intro st k K hk h
    obtain ⟨d, op, g⟩ := o
    rw [runOps_cons]
    have step : ∀ st, stepE E base false d st op (fun st _ => opsE E base ops st k) = some r → stepP (E.env base prot) d st op fun e st => match e with | .normal => runOps (E.env base prot) ops st K | e => K e st :=
      fun st h => stepP_of (stepE_ok (k := fun st _ => opsE E base ops st k) (fun s l hs => ih hk hs) h)
    have put : ∀ st v, putE st d v (fun st => opsE E base ops st k) = some r → putK st d v fun st => runOps (E.env base prot) ops st K :=
      fun st v h => putE_ok (k := fun st => opsE E base ops st k) (fun s hs => ih hk hs) h
    cases g with
    | none => exact step _ h
    | some p =>
      obtain ⟨t, want⟩ := p
      obtain ⟨tm, own⟩ := st
      dsimp only
      refine getE_ok (fun v hv => ?_) h
      dsimp only at hv ⊢
      split at hv
      · cases want with
        | true =>
          dsimp only at hv ⊢
          split at hv
          · exact brK_true rfl (step _ hv)
          · exact brK_false rfl (put _ _ hv)
        | false =>
          dsimp only at hv ⊢
          split at hv
          · exact brK_true rfl (put _ _ hv)
          · exact brK_false rfl (step _ hv)
      · exact put _ _ hv
      · cases hv
noncomputable def dE (E : EnvE) (base : Nat) (ops : List MOp) : St → List Log → (St → List Log → Option R) → Option R :=
  List.rec (motive := fun _ => St → List Log → (St → List Log → Option R) → Option R) (fun st log k => k st (revL log []))
    (fun o _ ih st log k => match o with
      | ⟨d, op, g⟩ => match g with
        | none => stepE E base true d st op fun st ks => ih st (ks :: log) k
        | some p => match p with
          | (t, want) => match st with
            | ⟨tm, own⟩ => getE tm t fun v => match v with
              | .t (.bool b) => match want with
                | true => match b with
                  | true => stepE E base true d ⟨tm, own⟩ op fun st ks => ih st (ks :: log) k
                  | false => putE ⟨tm, own⟩ d (.t .undef) fun st => ih st ([] :: log) k
                | false => match b with
                  | true => putE ⟨tm, own⟩ d (.t .undef) fun st => ih st ([] :: log) k
                  | false => stepE E base true d ⟨tm, own⟩ op fun st ks => ih st (ks :: log) k
              | .t (.tup _) => putE ⟨tm, own⟩ d (.t .undef) fun st => ih st ([] :: log) k
              | _ => none) ops
theorem dE_ok {E : EnvE} {base : Nat} {prot : List Nat} {ops : List MOp} : ∀ {st : St} {log : List Log} {k : St → List Log → Option R} {K : St → List Log → Prop}, (∀ s l, k s l = some r → K s l) → dE E base ops st log k = some r →
    runD (E.env base prot) ops st log K := by
  induction ops with
  | nil => intro st log k K hk h; exact hk _ _ h
  | cons o ops ih =>
    intro st log k K hk h
    obtain ⟨d, op, g⟩ := o
    rw [runD_cons]
    have step : ∀ st, stepE E base true d st op (fun st ks => dE E base ops st (ks :: log) k) = some r → stepK (E.env base prot) true d st op fun st ks => runD (E.env base prot) ops st (ks :: log) K :=
      fun st h => stepE_ok (k := fun st ks => dE E base ops st (ks :: log) k) (fun s l hs => ih hk hs) h
    have put : ∀ st v, putE st d v (fun st => dE E base ops st ([] :: log) k) = some r → putK st d v fun st => runD (E.env base prot) ops st ([] :: log) K :=
      fun st v h => putE_ok (k := fun st => dE E base ops st ([] :: log) k) (fun s hs => ih hk hs) h
    cases g with
    | none => exact step _ h
    | some p =>
      obtain ⟨t, want⟩ := p
      obtain ⟨tm, own⟩ := st
      dsimp only
      refine getE_ok (fun v hv => ?_) h
      dsimp only at hv ⊢
      split at hv
      · cases want with
        | true =>
          dsimp only at hv ⊢
          split at hv
          · exact brK_true rfl (step _ hv)
          · exact brK_false rfl (put _ _ hv)
        | false =>
          dsimp only at hv ⊢
          split at hv
          · exact brK_true rfl (put _ _ hv)
          · exact brK_false rfl (step _ hv)
      · exact put _ _ hv
      · cases hv

def maxKey : Own → Nat → Nat
  | [], m => m
  | p :: r, m => match Nat.ble p.1 m with
    | true => maxKey r m
    | false => maxKey r p.1
def rensOf (prot : List Nat) (lim : Nat) : Own → Nat → List Nz
  | [], _ => []
  | p :: r, f => match Nat.ble lim p.1 with
    | true => rensOf prot lim r f
    | false => match notIn p.1 prot with
      | true => .ren p.1 f :: rensOf prot lim r (Nat.succ f)
      | false => rensOf prot lim r f
def lim : Nat := 1000000000000000000000000000000
def nzOf (prot : List Nat) (st : St) : List Nz := rensOf prot lim st.own (Nat.succ (maxKey st.own lim))
def renE (prot : List Nat) (z : Nz) (st : St) (k : St → Option R) : Option R := match st with
  | ⟨tm, own⟩ => match z with
    | .ren j j0 => natE (notIn j prot) (freshE j0 own (k ⟨renVs j j0 tm, renOwn j j0 own⟩))
    | _ => none
def nzE (prot : List Nat) : List Nz → St → (St → Option R) → Option R
  | [], st, k => k st
  | z :: r, st, k => renE prot z st fun st' => nzE prot r st' k
theorem nzE_ok {prot : List Nat} : ∀ {zs : List Nz} {st : St} {k : St → Option R} {K : St → Prop}, (∀ s, k s = some r → K s) → nzE prot zs st k = some r → nzK prot zs st K
  | [], st, k, K, hk, h => hk _ h
  | z :: zs, st, k, K, hk, h => by
    obtain ⟨tm, own⟩ := st
    simp only [nzE, renE] at h
    simp only [nzK, nz1K]
    split at h
    · exact natE_ok (fun h => freshE_ok (fun h => nzE_ok hk h) h) h
    · cases h
def loopE (prot : List Nat) (W : St → (Ex → St → Option R) → Option R) : Nat → St → (Ex → St → Option R) → Option R
  | 0, _, _ => none
  | n + 1, st, k => W st fun e st' => match e with
    | .normal => nzE prot (nzOf prot st') st' fun s => loopE prot W n s k
    | e => k e st'
open Classical in
theorem loopE_ok {prot : List Nat} {W : St → (Ex → St → Option R) → Option R} {W' : St → (Ex → St → Prop) → Prop} (hW : ∀ st k K, (∀ e s, k e s = some r → K e s) → W st k = some r → W' st K) {n : Nat} {st : St}
    {k : Ex → St → Option R} {K : Ex → St → Prop} (hk : ∀ e s, k e s = some r → K e s) (h : loopE prot W n st k = some r) : loopK prot W' st K := by
  unfold loopK
  let I : St → Prop := fun s => ∃ n, loopE prot W n s k = some r
  have hl : ∀ s, I s → ∃ n, loopE prot W n s k = some r ∧ ∀ m, loopE prot W m s k = some r → n ≤ m := fun s ⟨n, hn⟩ => least_of (Q := fun n => loopE prot W n s k = some r) n hn
  let μ : St → Nat := fun s => if hx : I s then Classical.choose (hl s hx) else 0
  have hμ : ∀ s (hx : I s), loopE prot W (μ s) s k = some r ∧ ∀ m, loopE prot W m s k = some r → μ s ≤ m := fun s hx => by
    simp only [μ, dif_pos hx]; exact Classical.choose_spec (hl s hx)
  refine ⟨[], nzOf prot, I, μ, ⟨n, h⟩, fun s hs => ?_⟩
  obtain ⟨h1, h2⟩ := hμ s hs
  cases hm : μ s with
  | zero => rw [hm] at h1; cases h1
  | succ m =>
    rw [hm] at h1
    refine hW _ _ _ (fun e s' he => ?_) h1
    cases e with
    | normal =>
      refine nzE_ok (fun s2 hs2 => ?_) he
      have hI : I s2 := ⟨m, hs2⟩
      exact ⟨hI, by have := (hμ s2 hI).2 m hs2; omega⟩
    | exit i => exact hk _ _ he
    | ret => exact hk _ _ he
    | pan y => exact hk _ _ he
noncomputable def evC (E : EnvE) (base : Nat) (prot : List Nat) (fuel : Nat) (c : MC) : St → (Ex → St → Option R) → Option R :=
  MC.rec (motive := fun _ => St → (Ex → St → Option R) → Option R)
    (fun st k => k .normal st)
    (fun ops dr st k => match dr with
      | none => opsE E base ops st (k .normal)
      | some ps => match anyP (E.env base prot) ops with
        | false => dE E base ops st [] fun st log => natE (chkPairs log ps) (k .normal st)
        | true => none)
    (fun _ _ iha ihb st k => iha st fun e st => match e with
      | .normal => ihb st k
      | e => k e st)
    (fun c _ _ iha ihb st k => match st with
      | ⟨tm, own⟩ => evE E.gl tm c fun v => match v with
        | .t (.bool x) => match x with
          | true => iha ⟨tm, own⟩ k
          | false => ihb ⟨tm, own⟩ k
        | _ => none)
    (fun id _ ih st k => ih st fun e st => match e with
      | .exit j => match Nat.beq j id with
        | true => k .normal st
        | false => k (.exit j) st
      | e => k e st)
    (fun _ ih st k => loopE prot ih fuel st k)
    (fun id st k => k (.exit id) st)
    (fun st k => k .ret st) c
theorem evC_ok {E : EnvE} {base : Nat} {prot : List Nat} {fuel : Nat} {c : MC} : ∀ {st : St} {k : Ex → St → Option R} {K : Ex → St → Prop}, (∀ e s, k e s = some r → K e s) → evC E base prot fuel c st k = some r → wpx (E.env base prot) c st K := by
  induction c with
  | skip => intro st k K hk h; exact hk _ _ h
  | reg ops dr =>
    intro st k K hk h
    rw [wpx_reg]
    cases dr with
    | none => exact opsE_ok (fun s hs => hk _ _ hs) h
    | some ps =>
      have h' : (match anyP (E.env base prot) ops with
        | false => dE E base ops st [] fun st log => natE (chkPairs log ps) (k .normal st)
        | true => none) = some r := h
      dsimp only
      split at h'
      · rename_i e
        rw [e]
        exact dE_ok (fun s l hs => natE_ok (fun h => hk _ _ h) hs) h'
      · cases h'
  | seq a b iha ihb =>
    intro st k K hk h
    rw [wpx_seq]
    refine iha (fun e s he => ?_) h
    cases e with
    | normal => exact ihb hk he
    | exit i => exact hk _ _ he
    | ret => exact hk _ _ he
    | pan y => exact hk _ _ he
  | cond c a b iha ihb =>
    intro st k K hk h
    rw [wpx_cond]
    obtain ⟨tm, own⟩ := st
    refine evE_ok (Γ := E.env base prot) (fun v hv => ?_) h
    dsimp only at hv ⊢
    split at hv
    · split at hv
      · exact brK_true rfl (iha hk hv)
      · exact brK_false rfl (ihb hk hv)
    · cases hv
  | block id b ih =>
    intro st k K hk h
    rw [wpx_block]
    refine ih (fun e s he => ?_) h
    cases e with
    | normal => exact hk _ _ he
    | exit j =>
      dsimp only at he ⊢
      split at he
      · rename_i e; rw [e]; exact hk _ _ he
      · rename_i e; rw [e]; exact hk _ _ he
    | ret => exact hk _ _ he
    | pan y => exact hk _ _ he
  | loop b ih => intro st k K hk h; rw [wpx_loop]; exact loopE_ok (W := fun st k => evC E base prot fuel b st k) (fun st k K hk h => ih hk h) hk h
  | exit id => intro st k K hk h; exact hk _ _ h
  | ret => intro st k K hk h; exact hk _ _ h

def takeE {α : Type} : List α → Nat → Nat → (List α → Option R) → Option R
  | _, _, 0, k => k []
  | [], _, _ + 1, _ => none
  | x :: l, 0, n + 1, k => takeE l 0 n fun l => k (x :: l)
  | _ :: l, o + 1, n + 1, k => takeE l o (n + 1) k
theorem takeE_ok {α : Type} : ∀ {l : List α} {o n : Nat} {k : List α → Option R} {K : List α → Prop}, (∀ x, k x = some r → K x) → takeE l o n k = some r → takeK l o n K
  | [], _, 0, k, K, hk, h => hk _ h
  | x :: l, _, 0, k, K, hk, h => hk _ h
  | [], _, _ + 1, k, K, hk, h => by cases h
  | x :: l, 0, n + 1, k, K, hk, h => takeE_ok (k := fun l => k (x :: l)) (K := fun l => K (x :: l)) (fun y hy => hk _ hy) h
  | x :: l, o + 1, n + 1, k, K, hk, h => takeE_ok (l := l) (o := o) (n := n + 1) hk h
def rdE (cs : List V) (off : Nat) (n : Option Nat) (k : V → Option R) : Option R := match n with
  | none => getE cs off k
  | some n => takeE cs off n fun l => k (aggV l)
theorem rdE_ok {cs : List V} {off : Nat} {n : Option Nat} {k : V → Option R} {K : V → Prop} (hk : ∀ x, k x = some r → K x) (h : rdE cs off n k = some r) : rdK cs off n K := by
  cases n with
  | none => exact getE_ok hk h
  | some n => exact takeE_ok (k := fun l => k (aggV l)) (fun y hy => hk _ hy) h
def lstResE (sz off m : Nat) (n : Option Nat) (ts : List T) (k : V → Option R) : Option R := match sz, off, m, n with
  | 1, 0, 0, some n => match decide (ts.length = n) && ts.all T.one with
    | true => k (.t (.agg ts))
    | false => none
  | _, _, _, _ => none
theorem lstResE_ok {sz off m : Nat} {n : Option Nat} {ts : List T} {k : V → Option R} {K : V → Prop} (hk : ∀ x, k x = some r → K x) (h : lstResE sz off m n ts k = some r) : lstResK sz off m n ts K := by
  unfold lstResE at h
  unfold lstResK
  split at h
  · split at h
    · rename_i h1
      rw [Bool.and_eq_true, decide_eq_true_eq, List.all_eq_true] at h1
      exact reqK_of h1 (hk _ h)
    · cases h
  · cases h
def resE (st : St) : List Res → (List V → Option R) → Option R
  | [], k => k []
  | x :: rs, k => match st with
    | ⟨tm, own⟩ => match x with
      | .tmp t => getE tm t fun v => resE ⟨tm, own⟩ rs fun l => k (v :: l)
      | .cell t n => getE tm t fun v => match v with
        | .ptr j off => lkupE j own fun b => match b with
          | .cells cs => rdE cs off n fun v => resE ⟨tm, own⟩ rs fun l => k (v :: l)
          | .lst sz ts m => lstResE sz off m n ts fun v => resE ⟨tm, own⟩ rs fun l => k (v :: l)
          | _ => none
        | _ => none
theorem resE_ok {st : St} : ∀ {rs : List Res} {k : List V → Option R} {K : List V → Prop}, (∀ x, k x = some r → K x) → resE st rs k = some r → resK st rs K
  | [], k, K, hk, h => hk _ h
  | x :: rs, k, K, hk, h => by
    obtain ⟨tm, own⟩ := st
    simp only [resE] at h
    simp only [resK]
    cases x with
    | tmp t => exact getE_ok (fun v hv => resE_ok (fun l hl => hk _ hl) hv) h
    | cell t n =>
      refine getE_ok (fun v hv => ?_) h
      split at hv
      · refine lkupE_ok (fun b hb => ?_) hv
        split at hb
        · exact rdE_ok (fun v hv => resE_ok (fun l hl => hk _ hl) hv) hb
        · exact lstResE_ok (fun v hv => resE_ok (fun l hl => hk _ hl) hv) hb
        · cases hb
      · cases hv
def padE : Nat → (List V → Option R) → Option R
  | 0, k => k []
  | n + 1, k => padE n fun l => k (.dead :: l)
theorem padE_ok : ∀ {n : Nat} {k : List V → Option R} {K : List V → Prop}, (∀ x, k x = some r → K x) → padE n k = some r → padK n K
  | 0, k, K, hk, h => hk _ h
  | n + 1, k, K, hk, h => padE_ok (k := fun l => k (.dead :: l)) (K := fun l => K (.dead :: l)) (fun y hy => hk _ hy) h
def initE : List V → Nat → (List V → Option R) → Option R
  | [], n, k => padE n k
  | x :: l, n, k => initE l n fun l => k (x :: l)
theorem initE_ok : ∀ {l : List V} {n : Nat} {k : List V → Option R} {K : List V → Prop}, (∀ x, k x = some r → K x) → initE l n k = some r → initK l n K
  | [], n, k, K, hk, h => padE_ok hk h
  | x :: l, n, k, K, hk, h => initE_ok (k := fun l => k (x :: l)) (K := fun l => K (x :: l)) (fun y hy => hk _ hy) h
def endE (e : Ex) (k : Option R) : Option R := match e with
  | .normal => k
  | .ret => k
  | .exit _ => none
  | .pan _ => none
theorem endE_ok {e : Ex} {k : Option R} {K : Prop} (hk : k = some r → K) (h : endE e k = some r) : endK e K := by
  cases e with
  | normal => exact hk h
  | ret => exact hk h
  | exit i => cases h
  | pan y => cases h
def keepE (m : List Nat) : Own → (Own → Option R) → Option R
  | [], k => k []
  | p :: l, k => match p with
    | (j, b) => match notIn j m with
      | true => keepE m l k
      | false => keepE m l fun r' => k ((j, b) :: r')
theorem keepE_ok {m : List Nat} : ∀ {own : Own} {k : Own → Option R} {K : Own → Prop}, (∀ x, k x = some r → K x) → keepE m own k = some r → keepK m own K
  | [], k, K, hk, h => hk _ h
  | p :: l, k, K, hk, h => by
    obtain ⟨j, b⟩ := p
    simp only [keepE] at h
    simp only [keepK]
    split at h
    · rename_i e; rw [e]; exact keepE_ok hk h
    · rename_i e; rw [e]; exact keepE_ok (k := fun r' => k ((j, b) :: r')) (fun y hy => hk _ hy) h
def pushE (k : List Nat → Option R) : List Nat → List Nat → Option R
  | [], m => k m
  | x :: l, m => match notIn x m with
    | true => pushE k l (x :: m)
    | false => pushE k l m
theorem pushE_ok {k : List Nat → Option R} {K : List Nat → Prop} (hk : ∀ m, k m = some r → K m) : ∀ {l m : List Nat}, pushE k l m = some r → pushK l m K
  | [], m, h => hk m h
  | x :: l, m, h => by
    simp only [pushE] at h
    simp only [pushK]
    split at h
    · rename_i e; rw [e]; exact pushE_ok hk h
    · rename_i e; rw [e]; exact pushE_ok hk h
def reachE (k : List Nat → Option R) : Own → List Nat → Option R
  | [], m => k m
  | p :: l, m => match notIn p.1 m with
    | true => reachE k l m
    | false => pushE (fun m' => reachE k l m') (bRefs p.2) m
theorem reachE_ok {k : List Nat → Option R} {K : List Nat → Prop} (hk : ∀ m, k m = some r → K m) : ∀ {own : Own} {m : List Nat}, reachE k own m = some r → reachK K own m
  | [], m, h => hk m h
  | p :: l, m, h => by
    simp only [reachE] at h
    simp only [reachK]
    split at h
    · rename_i e; rw [e]; exact reachE_ok hk h
    · rename_i e; rw [e]; exact pushE_ok (fun m' h => reachE_ok hk h) h
def marksE (own : Own) (k : List Nat → Option R) : Own → List Nat → Option R
  | [], m => k m
  | _ :: l, m => reachE (fun m' => marksE own k l m') own m
theorem marksE_ok {own0 : Own} {k : List Nat → Option R} {K : List Nat → Prop} (hk : ∀ m, k m = some r → K m) : ∀ {own : Own} {m : List Nat}, marksE own0 k own m = some r → marksK own0 K own m
  | [], m, h => hk m h
  | p :: l, m, h => by
    unfold marksE at h
    unfold marksK
    exact reachE_ok (fun m' h => marksE_ok hk h) h
def gcE (roots : List Nat) (own : Own) (k : Own → Option R) : Option R :=
  pushE (fun m0 => marksE own (fun m => natE (allIn m roots) (natE (ownClosed m own) (keepE m own k))) own m0) roots []
theorem gcE_ok {roots : List Nat} {own : Own} {k : Own → Option R} {K : Own → Prop} (hk : ∀ x, k x = some r → K x) (h : gcE roots own k = some r) : gcK roots own K :=
  pushE_ok (fun m0 h => marksE_ok (fun m h => natE_ok (fun h => natE_ok (fun h => keepE_ok hk h) h) h) h) h
end

noncomputable def fnE (E : EnvE) (fuel : Nat) (m : MFn) (args : List T) : Option T :=
  lenE args m.np (tagE args fun vs => initE vs (m.nt - m.np) fun tm => evC E 0 [] fuel m.body ⟨tm, []⟩ fun e st => endE e (resE st m.res fun l =>
    evP false (toTP 8 (oneV l) fun x => .ret (.t x)) st.own [] fun v _ _ => match v with
      | .t x => some x
      | _ => none))
theorem fnE_ok {E : EnvE} {fuel : Nat} {m : MFn} {args : List T} {x : T} (h : fnE E fuel m args = some x) : fnK (E.env 0 []) m args (· = x) := by
  refine lenE_ok (fun h => tagE_ok (fun vs h => initE_ok (fun tm h => evC_ok (fun e st h => endE_ok (fun h => resE_ok (fun l h => evP_ok (fun v o l h => ?_) h) h) h) h) h) h) h
  dsimp only at h ⊢
  split at h
  · cases h; rfl
  · cases h
noncomputable def inE (E : EnvE) (fuel : Nat) (m : MFn) (base : Nat) (args : List V) (own : Own) : Option (V × Own) :=
  lenE args m.np (initE args (m.nt - m.np) fun tm => evC E base (keysOf own) fuel m.body ⟨tm, own⟩ fun e st => endE e (resE st m.res fun l =>
    gcE (vRefs (oneV l) ++ keysOf own) st.own fun own' => some (oneV l, own')))
theorem inE_ok {E : EnvE} {fuel : Nat} {m : MFn} {base : Nat} {args : List V} {own : Own} {v : V} {own' : Own} {R : V → Own → Prop} (h : inE E fuel m base args own = some (v, own')) (hR : R v own') : inl (E.env 0 []) m base args own R := by
  refine lenE_ok (fun h => initE_ok (fun tm h => evC_ok (fun e st h => endE_ok (fun h => resE_ok (fun l h => gcE_ok (fun o h => ?_) h) h) h) h) h) h
  cases h
  exact hR

def tabF : List (Nat × Nat × MFn) → Nat → Option (Nat × MFn)
  | [], _ => none
  | p :: r, n => match p with
    | (j, x) => match Nat.beq j n with
      | true => some x
      | false => tabF r n
noncomputable def envE (gl : Nat → Option (List T)) (ext : Nat → List T → Ans) (tab : List (Nat × Nat × MFn)) (fuel : Nat) (d : Nat) : EnvE :=
  Nat.rec (motive := fun _ => EnvE) ⟨fun n ts => ext n ts, gl, fun _ => false, fun _ _ _ _ => none⟩
    (fun _ E => ⟨fun n ts => match tabF tab n with
        | some p => match p with
          | (b, m) => match b with
            | 2 => pkOf (fnE E fuel m ts)
            | _ => ansOf (fnE E fuel m ts)
        | none => ext n ts, gl,
      fun n => match tabF tab n with
        | some p => match p with
          | (b, _) => Nat.beq b 1
        | none => false,
      fun n base args own => match tabF tab n with
        | some p => match p with
          | (_, m) => inE E fuel m base args own
        | none => none⟩) d
theorem got_ansOf {y : Option T} {x : T} (h : ansOf y = .yes x ∨ ∃ p d, ansOf y = @Ans.req p d x ∧ p) : y = some x := by
  cases y with
  | none => rcases h with h | ⟨p, d, h, _⟩ <;> cases h
  | some z => rcases h with h | ⟨p, d, h, _⟩ <;> cases h; rfl
structure ExtOk (P : Program) (gls : Nat → Option (List T)) (ext : Nat → List T → Ans) : Prop where
  fn : ∀ f vs x, (ext f vs = .yes x ∨ ∃ p d, ext f vs = @Ans.req p d x ∧ p) → FnOk P gls f vs x
  gl : ∀ f vs p d sz xs, ext f vs = @Ans.gl p d sz xs → p → FnGl P gls f vs sz xs
  pk : ∀ f vs p d x, ext f vs = @Ans.pk p d x → p → FnOk P gls f vs x
theorem extNo {P : Program} {gl : Nat → Option (List T)} : ExtOk P gl (fun _ _ => .no) :=
  ⟨fun f vs x h => (by rcases h with h | ⟨p, d, h, _⟩ <;> cases h), fun f vs p d sz xs h => (by cases h), fun f vs p d x h => (by cases h)⟩
theorem envE_ok {P : Program} {gl : Nat → Option (List T)} {ext : Nat → List T → Ans} {tab : List (Nat × Nat × MFn)} {fuel : Nat} (hext : ExtOk P gl ext)
    (htab : ∀ p ∈ tab, ∃ fn, P.funcs[p.1]? = some fn ∧ lowFn P fn = some p.2.2) : ∀ d, EnvOk P ((envE gl ext tab fuel d).env 0 []) := by
  have look : ∀ {l : List (Nat × Nat × MFn)} {n : Nat} {b : Nat} {m : MFn}, tabF l n = some (b, m) → (n, b, m) ∈ l := by
    intro l
    induction l with
    | nil => intro n b m h; cases h
    | cons p l ih =>
      intro n b m h
      obtain ⟨j, x⟩ := p
      simp only [tabF] at h
      split at h
      · rename_i e
        cases h
        rw [Nat.beq_eq] at e
        subst e
        exact List.mem_cons_self
      · exact List.mem_cons_of_mem _ (ih h)
  have glno : ∀ {y : Option T} {p : Prop} {d : Decidable p} {sz : Nat} {xs : List T}, ansOf y = @Ans.gl p d sz xs → False := by
    intro y p d sz xs h; cases y <;> cases h
  have pkno : ∀ {y : Option T} {p : Prop} {d : Decidable p} {x : T}, ansOf y = @Ans.pk p d x → False := by
    intro y p d x h; cases y <;> cases h
  have glno2 : ∀ {y : Option T} {p : Prop} {d : Decidable p} {sz : Nat} {xs : List T}, pkOf y = @Ans.gl p d sz xs → False := by
    intro y p d sz xs h; cases y <;> cases h
  have yesno : ∀ {y : Option T} {x : T}, (pkOf y = .yes x ∨ ∃ p d, pkOf y = @Ans.req p d x ∧ p) → False := by
    intro y x h
    cases y with
    | none => rcases h with h | ⟨p, d, h, _⟩ <;> cases h
    | some z => rcases h with h | ⟨p, d, h, _⟩ <;> cases h
  have pkyes : ∀ {y : Option T} {p : Prop} {d : Decidable p} {x : T}, pkOf y = @Ans.pk p d x → y = some x := by
    intro y p d x h
    cases y with
    | none => cases h
    | some z => cases h; rfl
  intro d
  induction d with
  | zero => exact ⟨hext.fn, hext.gl, hext.pk, (fun f base args own R h => by cases h), fun f g h => by cases h⟩
  | succ d ih =>
    have hgl : ∀ d, (envE gl ext tab fuel d).gl = gl := by intro d; cases d <;> rfl
    have hgl' : ((envE gl ext tab fuel d).env 0 []).gl = gl := hgl d
    have main : ∀ f vs x b m, tabF tab f = some (b, m) → fnE (envE gl ext tab fuel d) fuel m vs = some x → FnOk P gl f vs x := fun f vs x b m hp h => by
      obtain ⟨fn, h1, h2⟩ := htab _ (look hp)
      have := fn_ok ih h1 h2 (fnE_ok h)
      rw [hgl'] at this
      exact this
    have efn : ∀ f vs, ((envE gl ext tab fuel (d + 1)).env 0 []).fn f vs = match tabF tab f with
        | some p => match p with
          | (b, m) => match b with
            | 2 => pkOf (fnE (envE gl ext tab fuel d) fuel m vs)
            | _ => ansOf (fnE (envE gl ext tab fuel d) fuel m vs)
        | none => ext f vs := fun f vs => rfl
    refine ⟨fun f vs x h => ?_, fun f vs p dd sz xs h hp0 => ?_, fun f vs p dd x h hp0 => ?_, fun f base args own R hi h => ?_, fun f g h => by cases h⟩
    · rw [efn] at h
      split at h
      · rename_i p hp
        obtain ⟨b, m⟩ := p
        dsimp only at h
        split at h
        · exact (yesno h).elim
        · exact main f vs x b m hp (got_ansOf h)
      · exact hext.fn f vs x h
    · rw [efn] at h
      split at h
      · exfalso
        split at h
        split at h
        · exact glno2 h
        · exact glno h
      · exact hext.gl f vs p dd sz xs h hp0
    · rw [efn] at h
      split at h
      · rename_i p hp
        obtain ⟨b, m⟩ := p
        dsimp only at h
        split at h
        · exact main f vs x _ m hp (pkyes h)
        · exact (pkno h).elim
      · exact hext.pk f vs p dd x h hp0
    · obtain ⟨v, own', h, hR⟩ := h
      have h : (match tabF tab f with
        | some p => match p with
          | (_, m) => inE (envE gl ext tab fuel d) fuel m base args own
        | none => none) = some (v, own') := h
      split at h
      · rename_i p hp
        obtain ⟨b, m⟩ := p
        obtain ⟨fn, h1, h2⟩ := htab _ (look hp)
        have := inl_ok ih h1 h2 (inE_ok (R := R) h hR)
        rw [hgl'] at this
        exact this
      · cases h
theorem tab_nil {Q : Nat × Nat × MFn → Prop} : ∀ p ∈ ([] : List (Nat × Nat × MFn)), Q p := fun _ h => by cases h
theorem tab_cons {Q : Nat × Nat × MFn → Prop} {p : Nat × Nat × MFn} {l : List (Nat × Nat × MFn)} (h1 : Q p) (h2 : ∀ q ∈ l, Q q) : ∀ q ∈ p :: l, Q q := fun q hq => by
  rcases List.mem_cons.1 hq with rfl | h
  · exact h1
  · exact h2 q h
theorem ev_ok {P : Program} {gl : Nat → Option (List T)} {ext : Nat → List T → Ans} {tab : List (Nat × Nat × MFn)} {fuel d : Nat} (hext : ExtOk P gl ext)
    (htab : ∀ p ∈ tab, ∃ fn, P.funcs[p.1]? = some fn ∧ lowFn P fn = some p.2.2) {n : Nat} {ts : List T} {x : T} (h : (envE gl ext tab fuel d).fn n ts = .yes x) : FnOk P gl n ts x := by
  have hgl : ((envE gl ext tab fuel d).env 0 []).gl = gl := by cases d <;> rfl
  have := (envE_ok hext htab d).fn n ts x (.inl h)
  rwa [hgl] at this
end Go.Nx
end
