/-
  ANY STEP.
-/
import Derived.Test.YtbcldnaoecnffaaDoorMj2
set_option linter.unusedVariables false
namespace Go.Mx
open Go.RowKit

section
variable {P : Program} {Γ : Env} {B : Base} {S : Cells} {ρ : Nat → Info} {tm : List V} {own : List (Nat × Blk)} {a : Act} {w : World}
variable {o : Oper} {K : St → Prop} {next : Act → World → Prop} {Q : Exit → Act → World → Prop}

theorem map_some {α β : Type} {x : Option α} {f : α → β} {y : β} (h : x.map f = some y) : ∃ z, x = some z ∧ y = f z := by
  cases x with
  | none => cases h
  | some z => exact ⟨z, rfl, by simpa using h.symm⟩

theorem step_call (hΓ : EnvOk P Γ) (hn : ∀ st' a' w', K st' → Good Γ B st' a' w' → next a' w') (hr : Rel Γ B S ρ ⟨tm, own⟩ a w) {c : Call} {mk : MK} (hl : lowCall P o c = some mk)
    (ho : o.op = .call c) (h : stepK Γ o.dst ⟨tm, own⟩ mk K) : o.wp P a w next Q := by
  unfold lowCall at hl
  split at hl
  · rename_i f hc
    split at hl
    · rename_i f' as h1 h2
      cases hl
      exact op_call hΓ hn hr h1 hc h2 ho h
    · cases hl
  · rename_i b hc
    split at hl
    · rename_i x t ha ht
      have ha' : c.args = #[x] := Array.toList_inj.1 (by simpa using ha)
      have ht' : c.argTypes = #[t] := Array.toList_inj.1 (by simpa using ht)
      split at hl
      · rename_i x' h1 h2
        cases hl
        exact op_lens hn hr h2 hc ha' ht' h1 ho h
      · rename_i e x' h1 h2
        cases hl
        exact op_len hn hr h2 hc ha' ht' h1 ho h
      · rename_i n e x' h1 h2
        cases hl
        have h' : putK ⟨tm, own⟩ o.dst (.t (.int .i64 n)) K := h
        exact fin_val hn h' hr (u := .int .i64 n) (.int _ _) (by simp [execOp, ho, resolve, hc, ha', ht', invoke, builtin, Builtin.len_, underlying, h1, goInt])
      · cases hl
    · rename_i _ x y ha
      have ha' : c.args = #[x, y] := Array.toList_inj.1 (by simpa using ha)
      split at hl
      · rename_i x' y' h1 h2
        cases hl
        exact op_mx hn hr h1 h2 hc ha' ho h
      · cases hl
    · rename_i _ x y ha
      have ha' : c.args = #[x, y] := Array.toList_inj.1 (by simpa using ha)
      split at hl
      · rename_i x' y' h1 h2
        cases hl
        exact op_mn hn hr h1 h2 hc ha' ho h
      · cases hl
    · cases hl
  · cases hl

theorem arr1_box {t : TypeId} {x : Operand} {k : Nat} {x' : Opd} (hn : ∀ st' a' w', K st' → Good Γ B st' a' w' → next a' w') (hr : Rel Γ B S ρ ⟨tm, own⟩ a w) (hx : lowX x = some x')
    (ho : o.op = .box t x) (h : stepK Γ o.dst ⟨tm, own⟩ (.boxa k x') K) : o.wp P a w next Q := by
  obtain ⟨v, hv, h⟩ := evK_elim h
  have hrel := ev_rel hr hx hv
  · obtain ⟨l, hl, h⟩ := aggK_elim h
    subst hl
    obtain ⟨hf, h1⟩ := freshK_elim h
    obtain ⟨h2, h3⟩ := reqK_elim h1
    obtain ⟨arr, e1, c1, c2⟩ := RelT.agg_of (show RelT S w (.agg l) (a.eval x) from hrel)
    have one : ∀ x ∈ l, x.cells = [x] := fun x hx => by
      have := h2 x hx
      cases x <;> first | rfl | (simp [T.one] at this)
    obtain ⟨ρ', hk, hr'⟩ := hr.alloc (k := k) (blk := .lst 1 l true) (arr := arr) (e := t) (rv := .slice (some ⟨w.heap.size, 0, none⟩) l.length l.length) hf rfl (fun ρ' e1 e2 => by
      refine ⟨arr, t, l.length, by rw [e1]; simp, by rw [e1], Nat.le_refl _, by omega, fun x hx => by simp [one x hx], fun i x j c hx hc => ?_⟩
      rw [one x (List.mem_of_getElem? hx)] at hc
      cases j with
      | succ j => simp at hc
      | zero =>
        simp at hc; subst hc
        have hlt : i < arr.size := by
          rw [c1]
          rcases Nat.lt_or_ge i l.length with h | h
          · exact h
          · rw [List.getElem?_eq_none h] at hx; cases hx
        have e : arr[i]? = some arr[i] := by simp [hlt]
        exact ⟨_, by simp [hlt], RelT.keep (c2 i x _ hx e) (fun _ _ h => h) (Keep.alloc (fun _ _ => False) w _) (fun _ _ h => h.elim) hr.lt⟩)
    refine fin_val hn h3 hr' (u := .pointer (some ⟨w.heap.size, 0, none⟩)) ⟨.lst 1 l true, _, by simp [look], rfl, fun _ => by rw [hk]⟩ ?_
    simp [execOp, ho, Instr.box, newVar, newRow, e1, Value.cells]

theorem step_sound (hΓ : EnvOk P Γ) (hn : ∀ st' a' w', K st' → Good Γ B st' a' w' → next a' w') (hr : Rel Γ B S ρ ⟨tm, own⟩ a w) {mk : MK} (hl : lowOp P o = some mk)
    (h : stepK Γ o.dst ⟨tm, own⟩ mk K) : o.wp P a w next Q := by
  unfold lowOp at hl
  split at hl
  · rename_i x ho; obtain ⟨y, h1, rfl⟩ := map_some hl; exact op_mv hn hr h1 (.inl ho) h
  · rename_i x ho; obtain ⟨y, h1, rfl⟩ := map_some hl; exact op_mv hn hr h1 (.inr ho) h
  · rename_i c x y ho
    split at hl
    · rename_i c' x' y' h1 h2 h3; cases hl; exact op_pick hn hr h1 h2 h3 ho h
    · cases hl
  · rename_i t ho
    split at hl
    · rename_i z hz
      split at hl
      · rename_i hc
        simp only [Bool.and_eq_true] at hc
        cases hl; exact op_alloca hn hr hz hc.2 ho h
      · cases hl; exact op_alloc hn hr hz ho h
    · cases hl
  · rename_i t x ho
    split at hl
    · obtain ⟨y, h1, rfl⟩ := map_some hl; exact arr1_box hn hr h1 ho h
    · obtain ⟨y, h1, rfl⟩ := map_some hl; exact op_box hn hr h1 ho h
  · rename_i t x ho
    split at hl
    · rename_i n x' h1 h2; cases hl; exact op_ld hn hr h2 h1 ho h
    · cases hl
  · rename_i t x y ho
    split at hl
    · rename_i i x' y' h1 h2 h3
      split at hl
      · cases hl
      · rename_i h0; cases hl; exact op_st hn hr h2 h3 h1 h0 ho h
    · cases hl
  · rename_i x ho; obtain ⟨y, h1, rfl⟩ := map_some hl; exact op_nilc hn hr h1 ho h
  · rename_i s x f ho
    split at hl
    · rename_i fs h1
      split at hl
      · rename_i fl h2
        split at hl
        · rename_i i h3
          split at hl
          · cases hl
          · rename_i h4; obtain ⟨y, h5, rfl⟩ := map_some hl; exact op_fa hn hr h5 h1 h2 h3 h4 ho h
        · cases hl
      · cases hl
    · cases hl
  · rename_i s x f ho
    split at hl
    · rename_i fs h1
      split at hl
      · rename_i fl h2
        split at hl
        · rename_i n x' h3 h4; cases hl; exact op_fld hn hr h4 h1 h2 h3 ho h
        · cases hl
      · cases hl
    · cases hl
  · rename_i t x i ho
    split at hl
    · rename_i len e h1
      split at hl
      · rename_i ti x' i' h2 h3 h4; cases hl; exact op_ixa hn hr h3 h4 h1 h2 ho h
      · cases hl
    · rename_i e h1
      split at hl
      · rename_i ti x' i' h2 h3 h4; cases hl; exact op_ixs hn hr h3 h4 h1 h2 ho h
      · cases hl
    · cases hl
  · rename_i t x i ho
    split at hl
    · rename_i h1
      split at hl
      · rename_i x' i' h3 h4; cases hl; exact op_ixstr hn hr h3 h4 h1 ho h
      · cases hl
    · rename_i n e h1
      split at hl
      · rename_i ti d x' i' h2 h3 h4 h5
        split at hl
        · rename_i h6
          split at hl
          · cases hl
          · rename_i h7; cases hl; exact op_ixv hn hr h4 h5 h1 h2 h3 h6 (by simpa using h7) ho h
        · cases hl
      · cases hl
    · cases hl
  · rename_i op t x y yt ho
    split at hl
    · rename_i d x' y' h1 h2 h3
      split at hl
      · rename_i ha
        split at hl
        · cases hl
        · rename_i hg
          split at hl
          · rename_i sh hs
            split at hl
            · cases hl; exact op_eqa (neg := false) hn hr h2 h3 h1 ha (by simpa using hg) hs rfl ho h
            · cases hl; exact op_eqa (neg := true) hn hr h2 h3 h1 ha (by simpa using hg) hs rfl ho h
            · cases hl
          · cases hl
      · split at hl
        · cases hl; exact op_bin hn hr h2 h3 ho h
        · cases hl; exact op_bin hn hr h2 h3 ho h
        · cases hl; exact op_binb hn hr h2 h3 h1 ho h
        · cases hl
    · cases hl
  · rename_i op t x ho; obtain ⟨y, h1, rfl⟩ := map_some hl; exact op_un hn hr h1 ho h
  · rename_i s d x ho
    split at hl
    · rename_i j k x' h1 h2 h3; cases hl; exact op_conv hn hr h3 h1 h2 ho h
    · rename_i x' h1 h2 h3; cases hl; exact op_convs hn hr h3 h1 h2 ho h
    · cases hl
  · rename_i t ps ho
    split at hl
    · rename_i z f h1 h2; obtain ⟨l, h3, rfl⟩ := map_some hl; exact op_bld hn hr h1 h2 h3 ho h
    · cases hl
  · rename_i t n ps ho
    split at hl
    · rename_i e h1
      split at hl
      · rename_i ti xs h2 h3
        split at hl
        · rename_i z h4
          split at hl
          · rename_i h5
            split at hl
            · rename_i h6; cases hl; exact op_bslt hn hr h1 h2 h4 h3 h5 h6 ho h
            · cases hl
          · cases hl
        · cases hl
      · cases hl
    · cases hl
  · rename_i t x lo hi mx ho
    split at hl
    · rename_i x' lo' hi' h1 h2 h3 h4; cases hl; exact op_slstr hn hr h1 h2 h3 h4 ho h
    · rename_i x' lo' hi' e h1 h2 h3 h4
      split at hl
      · rename_i ti h5; cases hl; exact op_sll hn hr h1 h2 h3 h4 h5 ho h
      · cases hl
    · cases hl
  · rename_i x i ho; obtain ⟨y, h1, rfl⟩ := map_some hl; exact op_ext hn hr h1 ho h
  · rename_i c ho; exact step_call hΓ hn hr hl ho h
  · cases hl
end
end Go.Mx
