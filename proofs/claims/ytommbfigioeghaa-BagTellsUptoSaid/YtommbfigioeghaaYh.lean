/-
  A FUNCTION MAY ANSWER THE NIL SLICE FOR AN EMPTY LIST.
-/
import Derived.Test.YtommbfigioeghaaYg
set_option linter.unusedVariables false
namespace Go.Nx
open Go Go.RowKit Go.Sort
variable {P : Program} {Γ : Env}

def orNil (x y : T) : Prop := y = x ∨ y = .nils ∧ ∃ sz, x = .list sz []
theorem fn_okN (hΓ : EnvOk P Γ) {f : FuncId} {fn : Func} {m : MFn} {vs : List T} {x : T} (hf : P.funcs[f]? = some fn) (hl : lowFn P fn = some m) (h : fnK Γ m vs (orNil x)) : FnOk P Γ.gl f vs x := by
  obtain ⟨hnp, h⟩ := lenK_elim h
  have h3 := initK_elim (tagK_elim h)
  have main := fun (S : Cells) (w : World) (args : Array Value) (hlt : ∀ b o, S b o → b < w.heap.size) (hgl : GlOk Γ.gl S w) (hsz : args.size = vs.length) (hrel : ∀ (i : Nat) (c : T) (u : Value), vs[i]? = some c → args[i]? = some u → RelT S w c u) =>
    body_run (ρ := fun _ => ⟨0, .nilFunc⟩) (vals := args) (K := fun l st => run false (toTP 8 (oneV l) fun x => .ret (.t x)) st.own [] fun v _ _ => match v with
      | .t y => orNil x y
      | _ => False) hΓ hf hl (mem_nil hlt hgl _) (fun k b hk => by simp [look] at hk) (by simpa using hsz) (by simpa using hnp) (rel_ts hrel) h3
  refine ⟨?_, fun S w args hlt hgl hsz hrel => ?_⟩
  · unfold lowFn at hl
    split at hl
    · rename_i c hb
      split at hl
      · split at hl
        · cases hl
        · rename_i hname; exact ⟨fn, hf, by simp [hb], hname⟩
      · cases hl
    · cases hl
  · refine Calls.mono (main S w args hlt hgl hsz hrel).2 fun e w' he => ?_
    obtain ⟨u, l, st', S', ρ', a', rfl, hK, hr, hv⟩ := he
    obtain ⟨tm', own'⟩ := st'
    obtain ⟨y, own2, S2, log2, g1, g2, g3⟩ := toT_ok 8 _ _ _ _ _ _ _ _ _ _ _ _ _ _ hr hv hK
    have g1 : orNil x y := g1
    refine ⟨u, rfl, ?_, below_of hr⟩
    have g4 : RelT (fresh S w _) _ y u := g3.mono (fun b o hb => sup_nil g2.rel hb) (fun _ _ _ => rfl)
    rcases g1 with rfl | ⟨rfl, sz, rfl⟩
    · exact g4
    · exact nil_list sz g4
theorem enter_low {f : FuncId} {fn : Func} {m : MFn} (hf : P.funcs[f]? = some fn) (hl : lowFn P fn = some m) : Enter P f := by
  unfold lowFn at hl
  split at hl
  · rename_i c hb
    split at hl
    · split at hl
      · cases hl
      · rename_i hname; exact ⟨fn, hf, by simp [hb], hname⟩
    · cases hl
  · cases hl
/-- the library's sort, of the nil slice -/
theorem sort_fnv_nil {P : Program} {gl : Nat → Option (List T)} {f : FuncId} (he : Enter P f)
    (hnone : ∀ (p : Option Addr) (cap : Nat) (w : World), Calls P f #[.slice p 0 cap] w fun e w' => e = .returned (.tuple #[]) ∧ ∃ n os, w' = grow (Sort.ahead w n) os)
    {own : Own} {R : V → Own → Prop} (hR : R (.t (.tup [])) own) : FnV P gl f [.t .nils] own R := by
  refine fnv_of he fun Γ B S ρ a w vals hg hB hr hsz hrel => ?_
  have h0 := hrel 0 (.t .nils) (vals[0]'(by simp at hsz; omega)) rfl (by simp)
  have hvals : vals = #[vals[0]'(by simp at hsz; omega)] := by
    apply Array.ext
    · simpa using hsz
    · intro i h1 h2
      have : i = 0 := by simp at h2; omega
      subst this; rfl
  obtain ⟨v, hv⟩ : ∃ v, v = vals[0]'(by simp at hsz; omega) := ⟨_, rfl⟩
  rw [← hv] at h0 hvals
  subst hvals
  cases h0 with
  | t _ _ h0 =>
    cases h0
    refine (hnone none 0 w).mono ?_
    rintro e w' ⟨rfl, n, os, rfl⟩
    have hb : Below w.heap.size w (grow (Sort.ahead w n) os) := ⟨rfl, rfl, rfl, by simp [Sort.ahead], fun b hb => heap_grow_old (Sort.ahead w n) os hb⟩
    exact ⟨_, .t (.tup []), own, _, ρ, rfl, hR, hr.called hb, .t _ _ (.tup [] #[] rfl fun i c v h => by simp at h)⟩
end Go.Nx
