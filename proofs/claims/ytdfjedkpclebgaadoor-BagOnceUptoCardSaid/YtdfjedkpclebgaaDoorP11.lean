/-
  A part of the machine, and of what is walked.
-/
import Derived.Test.YtdfjedkpclebgaaDoorP10
import Derived.Sort.OwnSortedInts
section
set_option linter.unusedVariables false
namespace Go.Nx
open Go Go.RowKit Go.Sort

def srt (l : List Int) : List Int := l.mergeSort fun x y => decide (x ≤ y)
theorem srt_len (l : List Int) : (srt l).length = l.length := List.length_mergeSort _
theorem fnv_of {P : Program} {gl : Nat → Option (List T)} {f : FuncId} {args : List V} {own : Own} {R : V → Own → Prop} (he : Enter P f)
    (h : ∀ (Γ : Env) (B : Base) (S : Cells) (ρ : Infos) (a : Act) (w : World) (vals : Array Value), Γ.gl = gl → B = ⟨w, S, ρ, own, []⟩ → Rel Γ B S ρ ⟨[], own⟩ a w → vals.size = args.length → (∀ (i : Nat) (v : V) (u : Value), args[i]? = some v → vals[i]? = some u → RelV S w ρ own v u) →
      Calls P f vals w fun e w' => ∃ u v own' S' ρ', e = .returned u ∧ R v own' ∧ Rel Γ B S' ρ' ⟨[], own'⟩ a w' ∧ RelV S' w' ρ' own' v u) : FnV P gl f args own R := by
  refine ⟨he, fun S w ρ vals hm hsz hrel => ?_⟩
  have hr : Rel ⟨fun _ _ => .no, gl, 0, keysOf own, fun _ => false, fun _ _ _ _ _ => False, fun _ => false, []⟩ ⟨w, S, ρ, own, []⟩ S ρ ⟨[], own⟩ ⟨#[], []⟩ w := by
    refine ⟨hm, .refl _ w, hm.lt, fun _ _ h => h, fun _ _ h => .inl h, fun _ _ h => .inl h, .refl _, fun _ _ _ => rfl, fun k b hk => ?_, rfl, fun i v u h => by simp at h, rfl⟩
    exact keysOf_look hk
  refine (h _ _ S ρ _ w vals rfl rfl hr hsz hrel).mono fun e w' ⟨u, v, own', S', ρ', h1, h2, h3, h4⟩ => ?_
  exact ⟨u, v, own', S', ρ', h1, h2, h3.mem, h4, h3.keep, h3.sub, fun b o hb => by
    rcases h3.sup b o hb with h | h | h
    · exact .inl h
    · exact .inr (.inl h)
    · exact .inr (.inr h), h3.le, h3.rho, fun b o hb => h3.clB b o hb⟩
theorem keep_sorted {w : World} {g n : Nat} {os : Array Obj} {cur : Array Value} {e : TypeId} (d : Array Int) (hb : w.heap[g]? = some (.cells cur e (0, 0))) : Keep (fun x _ => x = g) w (grow (putRow (Value.int .i64) (Sort.ahead w n) g 0 d) os) := by
  have hg := grownBy_sortedI (w := w) (g := g) (n := n) (os := os) d
  refine ⟨hg.os, hg.tape, hg.output, hg.size, fun b hbl => ?_⟩
  by_cases hbg : b = g
  · subst hbg
    refine .inr (.inl ⟨cur, putCells (Value.int .i64) 0 d cur, e, (0, 0), hb, heap_sortedI d hb, by simp [putCells], fun j hj => absurd rfl hj⟩)
  · exact .inl (hg.block b hbl (by simpa using hbg))
theorem enc_get (l : List Int) (i : Nat) (hi : i < l.length) : l.toArray[i]! = at0 l i := by
  simp [at0, hi]
theorem upd_self {k : Nat} {b : Blk} : ∀ {own : Own}, look k own = some b → upd k b own = own
  | [], h => by simp [look] at h
  | p :: r, h => by
    obtain ⟨j, c⟩ := p
    simp only [look] at h
    simp only [upd]
    split at h
    · rename_i e
      simp only [Option.some.injEq] at h
      subst h
      simp [e]
    · rename_i e
      simp only [e, if_false]
      rw [upd_self h]
theorem sort_fnv {P : Program} {gl : Nat → Option (List T)} {f : FuncId} (he : Enter P f)
    (hsort : ∀ (blk off cap : Nat) (zs : List Int) (w : World), Holds (Value.int .i64) w blk off zs.toArray → blk < w.heap.size → zs.length < 4611686018427387904 →
      Calls P f #[.slice (some ⟨blk, off, none⟩) zs.length cap] w fun e w' => e = .returned (.tuple #[]) ∧ ∃ n os, w' = grow (putRow (Value.int .i64) (Sort.ahead w n) blk off (zs.mergeSort fun x y => decide (x ≤ y)).toArray) os)
    (hnone : ∀ (p : Option Addr) (cap : Nat) (w : World), Calls P f #[.slice p 0 cap] w fun e w' => e = .returned (.tuple #[]) ∧ ∃ n os, w' = grow (Sort.ahead w n) os)
    {k : Nat} {own : Own} {l : List Int} {R : V → Own → Prop} (hl : look k own = some (.lst 1 (is l) 0)) (hlen : l.length ≤ 140737488355328) (hR : R (.t (.tup [])) (upd k (.lst 1 (is (srt l)) 0) own)) : FnV P gl f [.sl k 0 none] own R := by
  refine fnv_of he fun Γ B S ρ a w vals hg hB hr hsz hrel => ?_
  have h0 := hrel 0 (.sl k 0 none) (vals[0]'(by simp at hsz; omega)) rfl (by simp)
  have hvals : vals = #[vals[0]'(by simp at hsz; omega)] := by
    apply Array.ext
    · simpa using hsz
    · intro i h1 h2
      have : i = 0 := by simp at h2; omega
      subst this; rfl
  obtain ⟨v, hv⟩ : ∃ v, v = vals[0]'(by simp at hsz; omega) := ⟨_, rfl⟩
  rw [← hv] at h0 hvals
  subst hvals
  have hs := sl_of h0 hl
  obtain ⟨a0, n0, c0, e0, hnc, q1, q2, q3, A, C, q4, q5, q6, q7⟩ := hs
  have hn0 := q2 rfl
  simp only [Nat.sub_zero, is_len] at hn0
  subst hn0
  by_cases hne : l = []
  · subst hne
    subst e0
    refine (hnone a0 c0 w).mono ?_
    rintro e w' ⟨rfl, n, os, rfl⟩
    have hb : Below w.heap.size w (grow (Sort.ahead w n) os) := ⟨rfl, rfl, rfl, by simp [Sort.ahead], fun b hb => heap_grow_old (Sort.ahead w n) os hb⟩
    refine ⟨_, .t (.tup []), own, _, ρ, rfl, ?_, hr.called hb, .t _ _ (.tup [] #[] rfl fun i c v h => by simp at h)⟩
    have hu : upd k (.lst 1 (is (srt [])) 0) own = own := upd_self (by rw [hl]; unfold srt; rw [List.mergeSort_nil])
    rw [hu] at hR
    exact hR
  · have hne' : is l ≠ [] := is_ne (List.length_pos_iff.2 hne)
    obtain ⟨C', arr, ety, h1, h2, h3, h4, h5, h6⟩ := lst0_cells hr hl hne'
    rw [q4] at h1
    simp only [Value.slice.injEq] at h1
    obtain ⟨rfl, _, rfl⟩ := h1
    rw [is_len] at h2
    have hpos : 0 < l.length := List.length_pos_iff.2 hne
    obtain ⟨b', o', p1, p2⟩ := q7 (by omega)
    simp only [Option.some.injEq, Addr.mk.injEq] at p1
    obtain ⟨rfl, rfl, _⟩ := p1
    simp only [Nat.zero_mul, Nat.add_zero] at p2
    subst p2 e0
    have htake : arr.toList.take l.length = l.map (Value.int .i64) := by
      apply List.ext_getElem?
      intro i
      rw [List.getElem?_take, List.getElem?_map]
      by_cases hi : i < l.length
      · rw [if_pos hi]
        obtain ⟨u, g1, g2⟩ := h6 i (.int .i64 l[i]) 0 (.int .i64 l[i]) (by simp [is, hi]) rfl
        have := RelT.int_of g2
        subst this
        simp only [Nat.mul_one, Nat.add_zero] at g1
        rw [Array.getElem?_toList, g1]; simp [hi]
      · rw [if_neg hi, List.getElem?_eq_none (by omega)]; rfl
    refine (hsort (ρ k).blk 0 c0 l w (holds_of_blockI h3 htake) (lt_of_heap h3) (by omega)).mono ?_
    rintro e w' ⟨rfl, n, os, rfl⟩
    refine ⟨_, .t (.tup []), _, S, ρ, rfl, hR, turn_lst hr hl hne' (ts' := is (srt l)) (by rw [is_len, is_len, srt_len]) (fun x hx => ?_) (keep_sorted (srt l).toArray h3) (heap_sortedI (srt l).toArray h3) (fun arr2 e2 h => ?_) (fun i x j c hx hc => ?_), .t _ _ (.tup [] #[] rfl fun i c v h => by simp at h)⟩
    · unfold is at hx
      obtain ⟨n, _, rfl⟩ := List.mem_map.1 hx
      exact ⟨rfl, fun c hc => by simp [T.cells] at hc; subst hc; rfl⟩
    · rw [h3] at h
      simp only [Option.some.injEq, Obj.cells.injEq] at h
      rw [← h.1]; simp [putCells]
    · unfold is at hx
      rw [List.getElem?_map] at hx
      cases hz : (srt l)[i]? with
      | none => rw [hz] at hx; cases hx
      | some z =>
        rw [hz] at hx
        simp at hx; subst hx
        have hi := (List.getElem?_eq_some_iff.1 hz).1
        rw [srt_len] at hi
        have hj : j = 0 := by
          rcases j with _ | j
          · rfl
          · simp [T.cells] at hc
        subst hj
        simp [T.cells] at hc; subst hc
        refine ⟨.int .i64 z, ?_, .int _ _⟩
        have hia : i < arr.size := by omega
        have hi2 : i < (srt l).length := by rw [srt_len]; exact hi
        have hz' : (srt l)[i] = z := (List.getElem?_eq_some_iff.1 hz).2
        have e1 : (putCells (Value.int .i64) 0 (srt l).toArray arr)[i]? = some (Value.int .i64 ((srt l).toArray[i]!)) := by
          simp [putCells, hia, hi2]
        have e2 : (srt l).toArray[i]! = z := by simp [hi2, hz']
        rw [e2] at e1
        simpa using e1
end Go.Nx
end
section
set_option linter.unusedVariables false
namespace Go.Nx
open Go Go.RowKit Go.Sort
variable {P : Program} {Γ : Env}

def orNil (x y : T) : Prop := y = x ∨ y = .nils ∧ ∃ sz, x = .list sz []
theorem fn_okN (hΓ : EnvOk P Γ) {f : FuncId} {fn : Func} {m : MFn} {vs : List T} {x : T} (hf : P.funcs[f]? = some fn) (hl : lowFn P fn = some m) (h : fnK Γ m vs (orNil x)) : FnOk P Γ.gl f vs x := by
  obtain ⟨hnp, h⟩ := lenK_elim h
  have h3 := initK_elim (tagK_elim h)
  have main := fun (S : Cells) (w : World) (args : Array Value) (hlt : ∀ b o, S b o → b < w.heap.size) (hgl : GlOk Γ.gl S w) (hsz : args.size = vs.length) (hrel : ∀ (i : Nat) (c : T) (u : Value), vs[i]? = some c → args[i]? = some u → RelT S w c u) =>
    body_run (ρ := fun _ => ⟨0, .nilFunc⟩) (vals := args) (K := fun l st => run false (toTP 8 (oneV l) fun x => .ret (.t x)) st.own [] fun v _ _ => match v with
      | .t y => orNil x y
      | _ => False) hΓ hf hl (mem_nil hlt hgl _) (fun k b hk => by simp [look] at hk) (by simpa using hsz) (by simpa using hnp) (rel_ts hrel) h3
  refine ⟨?_, fun S w args hlt hgl hsz hrel => ?_⟩
  · unfold lowFn at hl
    split at hl
    · rename_i c hb
      split at hl
      · split at hl
        · cases hl
        · rename_i hname; exact ⟨fn, hf, by simp [hb], hname⟩
      · cases hl
    · cases hl
  · refine Calls.mono (main S w args hlt hgl hsz hrel).2 fun e w' he => ?_
    obtain ⟨u, l, st', S', ρ', a', rfl, hK, hr, hv⟩ := he
    obtain ⟨tm', own'⟩ := st'
    obtain ⟨y, own2, S2, log2, g1, g2, g3⟩ := toT_ok 8 _ _ _ _ _ _ _ _ _ _ _ _ _ _ hr hv hK
    have g1 : orNil x y := g1
    refine ⟨u, rfl, ?_, below_of hr⟩
    have g4 : RelT (fresh S w _) _ y u := g3.mono (fun b o hb => sup_nil g2.rel hb) (fun _ _ _ => rfl)
    rcases g1 with rfl | ⟨rfl, sz, rfl⟩
    · exact g4
    · exact nil_list sz g4
theorem enter_low {f : FuncId} {fn : Func} {m : MFn} (hf : P.funcs[f]? = some fn) (hl : lowFn P fn = some m) : Enter P f := by
  unfold lowFn at hl
  split at hl
  · rename_i c hb
    split at hl
    · split at hl
      · cases hl
      · rename_i hname; exact ⟨fn, hf, by simp [hb], hname⟩
    · cases hl
  · cases hl
theorem sort_fnv_nil {P : Program} {gl : Nat → Option (List T)} {f : FuncId} (he : Enter P f)
    (hnone : ∀ (p : Option Addr) (cap : Nat) (w : World), Calls P f #[.slice p 0 cap] w fun e w' => e = .returned (.tuple #[]) ∧ ∃ n os, w' = grow (Sort.ahead w n) os)
    {own : Own} {R : V → Own → Prop} (hR : R (.t (.tup [])) own) : FnV P gl f [.t .nils] own R := by
  refine fnv_of he fun Γ B S ρ a w vals hg hB hr hsz hrel => ?_
  have h0 := hrel 0 (.t .nils) (vals[0]'(by simp at hsz; omega)) rfl (by simp)
  have hvals : vals = #[vals[0]'(by simp at hsz; omega)] := by
    apply Array.ext
    · simpa using hsz
    · intro i h1 h2
      have : i = 0 := by simp at h2; omega
      subst this; rfl
  obtain ⟨v, hv⟩ : ∃ v, v = vals[0]'(by simp at hsz; omega) := ⟨_, rfl⟩
  rw [← hv] at h0 hvals
  subst hvals
  cases h0 with
  | t _ _ h0 =>
    cases h0
    refine (hnone none 0 w).mono ?_
    rintro e w' ⟨rfl, n, os, rfl⟩
    have hb : Below w.heap.size w (grow (Sort.ahead w n) os) := ⟨rfl, rfl, rfl, by simp [Sort.ahead], fun b hb => heap_grow_old (Sort.ahead w n) os hb⟩
    exact ⟨_, .t (.tup []), own, _, ρ, rfl, hR, hr.called hb, .t _ _ (.tup [] #[] rfl fun i c v h => by simp at h)⟩
end Go.Nx
end
