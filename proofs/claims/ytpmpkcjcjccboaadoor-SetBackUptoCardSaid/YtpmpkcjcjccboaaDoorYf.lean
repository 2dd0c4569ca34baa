/-
  LAID TABLES OF NUMBERS; LISTS OF LISTS.
-/
import Derived.Test.YtpmpkcjcjccboaaDoorYe
import Derived.Lib.LaidTab
import Derived.Lib.SmallJoins
set_option linter.unusedVariables false
namespace Go.Nx
open Go.RowKit Go.ChangeShapes Go.WideShapes Go.Lib Go.Joins Go.Deep Go.WideElems Go.Maps

section
variable {H : Type} {enc : TypeId × Value → H} {P : Program} {w : World} {base : Nat} {spare : Nat → Bool} {held : Bool}
/-- an array of numbers that is laid -/
theorem cells_of_ints {fuel : Nat} {t e : TypeId} {n : Nat} {k : IntKind} {cs : List Value} {zs : List Int} {p : List MemPlace}
    (ht : P.underlying t = some (.array n e)) (he : P.underlying e = some (.int k)) (hce : P.cellsOf e = 1) (hct : P.cellsOf t = n)
    (h : DataW.trod enc P w base spare held fuel t cs = some (.agg (zs.map fun z => .lit (.int k z)), p)) : cs = zs.map fun z => Value.int k z := by
  cases fuel with
  | zero => simp [DataW.trod] at h
  | succ fuel =>
    simp only [DataW.trod, ht, hce, hct, Nat.mul_one] at h
    split at h
    · rename_i hl
      obtain ⟨xs, hm, hx⟩ := Option.map_eq_some_iff.1 h
      have hxs : xs.map (·.1) = zs.map fun z => (DataW.lit (.int k z) : DataW H) := by
        have := congrArg Prod.fst hx
        simpa using this
      have hxl : xs.length = n := by simpa using mapM_length hm
      have hzl : zs.length = n := by
        have := congrArg List.length hxs
        simp at this
        omega
      apply List.ext_getElem?
      intro i
      by_cases hi : i < n
      · obtain ⟨b, hb, hf⟩ := mapM_at hm i i (by simp [hi])
        obtain ⟨z, hc, rfl, _⟩ := DataW.trod_int he hf
        have h1 : cs[i]? = some (.int k z) := by
          have := congrArg (·[0]?) hc
          simpa [List.getElem?_take, List.getElem?_drop] using this
        have h2 : (xs.map (·.1))[i]? = some (DataW.lit (.int k z) : DataW H) := by simp [hb]
        rw [hxs] at h2
        simp only [List.getElem?_map, Option.map_eq_some_iff, DataW.lit.injEq, Lit.int.injEq] at h2
        obtain ⟨z', hz', _, rfl⟩ := h2
        simp [h1, hz']
      · rw [List.getElem?_eq_none (by omega), List.getElem?_eq_none (by simp; omega)]
    · cases h
theorem ints_of_head {W : World} {name : String} {k : IntKind} {zs : List Int} {rest : List (String × DataW Unit)} {g : Nat} {t e : TypeId} {n : Nat}
    (hg : P.globalNamed name = some g) (hty : (P.globals[g]?).map (·.type) = some t) (ht : P.underlying t = some (.array n e)) (he : P.underlying e = some (.int k)) (hce : P.cellsOf e = 1) (hct : P.cellsOf t = n)
    (h : laidMet P ((name, .agg (zs.map fun z => .lit (.int k z))) :: rest) W) (i : Nat) (hi : i < zs.length) : W.cell? ⟨g, i, none⟩ = some (.int k zs[i]) := by
  obtain ⟨ps, ⟨g', t', cs, fuel, p, q, hg', ht', hvar, hd, _, _⟩, _⟩ := h
  obtain rfl := Option.some.inj (hg.symm.trans hg')
  obtain rfl := Option.some.inj (hty.symm.trans ht')
  have e := cells_of_ints ht he hce hct hd
  have := World.var?_cell hg hvar i
  rw [this]
  have e2 : cs[i]? = cs.toList[i]? := by simp
  rw [e2, e]
  simp [hi]
theorem glOk_ints {W : World} {g0 : Nat} {k : IntKind} {zs : List Int} (h : ∀ (i : Nat) (hi : i < zs.length), W.cell? ⟨g0, i, none⟩ = some (.int k zs[i])) {gl : Nat → Option (List T)} (hgl : ∀ g cs, gl g = some cs → g = g0 ∧ cs = zs.map (T.int k)) : GlOk gl (InW W) W := by
  intro g cs hg i c hc
  obtain ⟨rfl, rfl⟩ := hgl g cs hg
  rw [List.getElem?_map] at hc
  cases hz : zs[i]? with
  | none => rw [hz] at hc; cases hc
  | some z =>
    rw [hz] at hc
    simp at hc; subst hc
    obtain ⟨hi, rfl⟩ := List.getElem?_eq_some_iff.1 hz
    exact ⟨cell_lt (h i hi), _, h i hi, .int _ _⟩
end
theorem fits_rs {ys : List T} (h : ∀ y ∈ ys, Flat 1 y ∧ Fits (.sl 1 8 (.int .i64)) y.cells ∧ y = mkEl y.cells) : ∃ L : List (List Int), ys = L.map (fun l => T.list 1 (is l)) ∧ ∀ l ∈ L, l.length * 8 ≤ 140737488351232 ∧ ∀ n ∈ l, I64 n := by
  induction ys with
  | nil => exact ⟨[], rfl, by simp⟩
  | cons y ys ih =>
    obtain ⟨L, h1, h2⟩ := ih fun z hz => h z (by simp [hz])
    obtain ⟨_, ⟨zs, hz, hb, hf⟩, he⟩ := h y (by simp)
    obtain ⟨l, rfl, hl⟩ := fits_is hf
    rw [hz] at he
    refine ⟨l :: L, by rw [h1, he]; rfl, fun l' hl' => ?_⟩
    rcases List.mem_cons.1 hl' with rfl | hl'
    · exact ⟨by rw [is_len] at hb; exact hb, hl⟩
    · exact h2 l' hl'
end Go.Nx
