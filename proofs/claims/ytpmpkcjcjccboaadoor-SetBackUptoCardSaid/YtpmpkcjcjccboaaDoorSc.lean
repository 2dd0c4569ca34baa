/-
  WHAT set.List ANSWERS: straight from the model.
-/
import Derived.Test.YtpmpkcjcjccboaaDoorSb
import Derived.Test.YtpmpkcjcjccboaaDoorRz
import Derived.Shelf.Abstract
import Derived.WalkKit
import Derived.OwnWalkIn
import Derived.TacticsInMore
import Derived.LoopNIn
import Derived.LoopIn
import Derived.Maps.AppendAt
set_option linter.unusedVariables false
set_option linter.unusedSimpArgs false
namespace Go.Nx
open Go Go.RowKit Go.Shelf Go.Proofs

attribute [local go_sem] Oper.semAt_some

theorem fn_calls1 {P : Program} {gl : Nat → Option (List T)} {f : FuncId} {x : T} {y : T} (h : FnOk P gl f [x] y) {S : Cells} {w : World} {u : Value} (hS : ∀ b o, S b o → b < w.heap.size) (hgl : GlOk gl S w) (hu : RelT S w x u) :
    Calls P f #[u] w fun e w' => ∃ v, e = .returned v ∧ RelT (fresh S w w') w' y v ∧ Below w.heap.size w w' :=
  h.2 S w #[u] hS hgl rfl fun i c u' hc hu' => by
    rcases i with _ | i
    · simp at hc hu'; subst hc hu'; exact hu
    · simp at hc
/-- the package's variables are laid so, below a number -/
def GlAt (gl : Nat → Option (List T)) (n : Nat) (w : World) : Prop := ∃ S : Cells, (∀ b o, S b o → b < n) ∧ n ≤ w.heap.size ∧ GlOk gl S w
theorem GlAt.below {gl : Nat → Option (List T)} {n : Nat} {w w' : World} (h : GlAt gl n w) (hb : Below n w w') : GlAt gl n w' := by
  obtain ⟨S, h1, h2, h3⟩ := h
  refine ⟨S, h1, Nat.le_trans h2 hb.size, fun g cs hg i c hc => ?_⟩
  obtain ⟨k1, u, k2, k3⟩ := h3 g cs hg i c hc
  exact ⟨k1, u, (hb.cell (p := ⟨g, i, none⟩) (h1 _ _ k1)).trans k2, k3.mono (fun _ _ h => h) fun b o h => hb.cell (p := ⟨b, o, none⟩) (h1 _ _ h)⟩
theorem ctz_calls {s : Int} (hs : R64 s) {n : Nat} {w : World} (hg : GlAt tgl n w) : Calls Tryd.prog 44 #[.int .u64 s] w fun e w' => e = .returned (.int .i64 (ctz (bv s))) ∧ Below w.heap.size w w' := by
  obtain ⟨S, h1, h2, h3⟩ := hg
  refine (fn_calls1 (ok44 s hs) (fun b o h => Nat.lt_of_lt_of_le (h1 b o h) h2) h3 (.int _ _)).mono ?_
  rintro e w' ⟨v, rfl, hr, hb⟩
  cases hr
  exact ⟨rfl, hb⟩
noncomputable def leftC (C : Nat) (w : World) : Nat := match w.cell? ⟨C, 0, none⟩ with
  | some (.int _ n) => (lsL (bv n)).length
  | _ => 0
theorem leftC_eq {C : Nat} {w : World} {t : TypeId} {s : Int} (h : Boxed w C t (.int .u64 s)) : leftC C w = (lsL (bv s)).length := by
  unfold leftC; rw [h.cell]

set_option maxRecDepth 100000 in
set_option maxHeartbeats 1000000 in
theorem each1_in (n : Nat) (hn : 1 ≤ n) (l C n0 : Nat) (hC : n0 ≤ C) (s0 : Int) (hs0 : R64 s0) (J : List Int → World → Prop) (W : World) (hJu : AbUp J) (hJc : ∀ s A v, J s A → J s (A.setCell ⟨C, 0, none⟩ v))
    (hY : ∀ pre x rest W1, lsL (bv s0) = pre ++ x :: rest → J pre W1 → YieldAt Fence.wide (n - 1) Tryd.prog l #[.int .i64 x] W1 fun e W' => e = .returned (.bool true) ∧ J (pre ++ [x]) W' ∧ (∀ v, Boxed W1 C 23 v → Boxed W' C 23 v) ∧ Below n0 W1 W')
    (hG : GlAt tgl n0 W) (hB : Boxed W C 23 (.int .u64 s0)) (h0 : J [] W) :
    CallsIn Fence.wide n Tryd.prog 43 #[.func (.yield l) #[] #[], .pointer (some ⟨C, 0, none⟩)] W fun e W' => (∃ v, e = .returned v) ∧ J (lsL (bv s0)) W' := by
  refine callsIn_of_wp Tryd.func43 rfl trivial ?_ rfl
  simp only [Tryd.ntmps43, List.size_toArray, List.length_cons, List.length_nil, Nat.reduceAdd, Nat.reduceSub, Array.replicate_succ, Array.replicate_zero, List.push_toArray, List.append_toArray, List.nil_append, List.cons_append]
  gi_wp2
  gi_loopw [] (fun wr => ∃ (pre : List Int) (s : Int), R64 s ∧ lsL (bv s0) = pre ++ lsL (bv s) ∧ Boxed wr C 23 (.int .u64 s) ∧ J pre wr ∧ GlAt tgl n0 wr) (fun wr => leftC C wr)
  case atStart =>
    exact ⟨[], s0, hs0, rfl, hB, h0, hG⟩
  case round =>
    obtain ⟨pre, s, hs, hx, hb, hJ, hg⟩ := hrel
    have hc := hb.cell
    by_cases hz : s = 0
    · subst hz
      gi_wp2
      go_end0
      refine ⟨⟨_, rfl⟩, ?_⟩
      rw [hx, show bv 0 = 0 from rfl, lsL_zero, List.append_nil]
      exact hJ
    · have hbv : bv s ≠ 0 := fun e => hz (by rw [← iv_bv hs, e]; rfl)
      have hl := lsL_low (ctz_low hbv)
      have hk := (ctz_low hbv).1
      have hw : wrap64 ((ctz (bv s) : Int) + 1) = (ctz (bv s) : Int) + 1 := by unfold wrap64; omega
      have hfull : lsL (bv s0) = pre ++ ((ctz (bv s) : Int) + 1) :: lsL (bv s &&& (bv s - 1#64)) := by rw [hx, ← hl]
      gi_wp2_with (refine ⟨trivial, ?_⟩; gi_at_call 44; refine (callsIn_wide.2 (ctz_calls hs hg)).mono ?_; rintro e w' ⟨rfl, hb'⟩; obtain ⟨fn, tmps, assign, body, hy, hR⟩ := hY pre _ _ w' hfull (hJu _ _ _ hJ hb'); have hB' : Boxed w' C 23 (.int .u64 s) := below_at hb' hb)
      gi_wp2
      refine hR.mono ?_
      rintro e W3 ⟨rfl, hJ3, hk3, hb3⟩
      have hB3 := hk3 _ hB'
      have hc3 := hB3.cell
      have hf3 := hB3.frozen
      gi_wp2
      have hbits : bits BinOp.and IntKind.u64 s (IntKind.u64.wrap (s - 1)) = iv (bv s &&& (bv s - 1#64)) := by
        show andI .u64 s (IntKind.u64.wrap (s - 1)) = _
        rw [andI_u, wrap_iv (s - 1), bv_iv, bv_sub]; rfl
      rw [hbits]
      have hB4 := hB3.set (.int .u64 (iv (bv s &&& (bv s - 1#64))))
      refine ⟨⟨pre ++ [(ctz (bv s) : Int) + 1], iv (bv s &&& (bv s - 1#64)), R_iv _, ?_, hB4, hJc _ _ _ hJ3, ((hg.below (hb'.mono (by obtain ⟨_, _, h, _⟩ := hg; exact h))).below hb3).below ((Below.refl n0 W3).setCell (p := ⟨C, 0, none⟩) hC _)⟩, ?_⟩
      · rw [hx, bv_iv, hl, List.append_assoc]; rfl
      · rw [leftC_eq hB4, leftC_eq hb, bv_iv, hl]; simp
set_option maxHeartbeats 1000000 in
theorem each_in (n : Nat) (s : Int) (w : World) :
    CallsIn Fence.wide n Tryd.prog 36 #[.int .u64 s] w fun e w' => e = .returned (.func (.func 43) #[] #[.pointer (some ⟨w.heap.size, 0, none⟩)]) ∧ w' = w.alloc (.cells #[.int .u64 s] 23) := by
  refine callsIn_of_wp Tryd.func36 rfl trivial ?_ rfl
  simp only [Tryd.ntmps36, List.size_toArray, List.length_cons, List.length_nil, Nat.reduceAdd, Nat.reduceSub, Array.replicate_succ, Array.replicate_zero, List.push_toArray, List.append_toArray, List.nil_append, List.cons_append]
  gi_wp2
  go_ret
  exact ⟨rfl, rfl⟩
theorem infoI : (Tryd.prog.info? 3).map (fun i => (i.zero, i.size, i.bytes)) = some (some (.int .i64 0), 1, 8) := by kernel_rfl
set_option maxRecDepth 100000 in
set_option maxHeartbeats 2000000 in
theorem List_in (n : Nat) (hn : 3 ≤ n) (s : Int) (hs : R64 s) (w : World) (hg : GlAt tgl w.heap.size w) :
    CallsIn Fence.wide n Tryd.prog 23 #[.int .u64 s] w fun e W' => ∃ v, e = .returned v ∧ W'.ownsRow w.heap.size 3 1 v (lsL (bv s)).length ((lsL (bv s)).map (Value.int .i64)) ∧ Below w.heap.size w W' := by
  have h1 : 1 ≤ n := by omega
  obtain ⟨i0, hi, hz0, hz1, hz2⟩ := info_parts infoI
  refine callsIn_of_wp_marks Tryd.func23 rfl trivial ?_ rfl
  simp only [Tryd.ntmps23, List.size_toArray, List.length_cons, List.length_nil, Nat.reduceAdd, Nat.reduceSub, Array.replicate_succ, Array.replicate_zero, List.push_toArray, List.append_toArray, List.nil_append, List.cons_append]
  gi_wp2_with (refine ⟨trivial, ?_⟩; gi_at_call 36; refine (each_in (n - 1) s _).mono ?_; rintro e w' ⟨rfl, rfl⟩)
  have bO := Boxed.new w 24 (.slice none 0 0)
  have bN := Boxed.new (w.alloc (.cells #[.slice none 0 0] 24)) 23 (.int .u64 s)
  rw [World.size_alloc] at bN
  have hB0 : Below w.heap.size w ((w.alloc (.cells #[.slice none 0 0] 24)).alloc (.cells #[.int .u64 s] 23)) := ((Below.refl _ w).alloc (Nat.le_refl _) _).alloc (by simp) _
  have hG1 := hg.below hB0
  obtain ⟨w1, hw1⟩ : ∃ w1, (w.alloc (.cells #[.slice none 0 0] 24)).alloc (.cells #[.int .u64 s] 23) = w1 := ⟨_, rfl⟩
  have hsz : w1.heap.size = w.heap.size + 2 := by rw [← hw1]; simp
  have bO1 := bO.alloc (.cells #[.int .u64 s] 23)
  rw [hw1] at bO1 bN hB0 hG1 ⊢
  refine wpIn_rangeFunc_C (full := lsL (bv s)) (C := w.heap.size + 1) (n0 := w.heap.size) (t := 23) (w0 := w1) (encs := fun x => #[.int .i64 x]) rfl h1 (gf := 43) (lb := #[.pointer (some ⟨w.heap.size + 1, 0, none⟩)]) rfl trivial (enters_of Tryd.func43 (by kernel_rfl) rfl)
    (fun l J W hb hu hc hy h0 => each1_in _ (by omega) l (w.heap.size + 1) w.heap.size (by omega) s hs J W hu hc hy (hG1.below (hb.mono (by omega))) (below_at hb bN) h0) (by omega) (by omega) (Below.refl _ _) (fun _ => rfl)
    (fun pre W => (∃ v, Boxed W w.heap.size 24 v ∧ W.ownsRow w.heap.size 3 1 v pre.length (pre.map (Value.int .i64)) ∧ ∃ u, Boxed W (w.heap.size + 1) 23 u) ∧ Below w.heap.size w W ∧ w.heap.size + 2 ≤ W.heap.size)
    ?up ?cell ?obj ⟨⟨_, bO1, World.ownsRow_nil _ _ _ _, _, bN⟩, hB0, by omega⟩
    (fun x => { tmps := #[.int .u64 s, undef, .slice none 0 0, .pointer (some ⟨w.heap.size, 0, none⟩), .int .i64 x, .int .u64 s, .func (.func 43) #[] #[.pointer (some ⟨w.heap.size + 1, 0, none⟩)], .int .i64 x, undef, undef, undef, undef, undef], defers := [] }) ?assign ?body ?done
  case up =>
    rintro pre A B' ⟨⟨v, hv, hr, u, hn⟩, hb, hz⟩ hb'
    exact ⟨⟨v, below_at hb' hv, ownsRow_below hr hb', u, below_at hb' hn⟩, hb.trans (hb'.mono (by omega)), Nat.le_trans hz hb'.size⟩
  case cell =>
    rintro pre A v' ⟨⟨v, hv, hr, u, hn⟩, hb, hz⟩
    exact ⟨⟨v, boxed_setCell _ hv (by omega), hr.kept (grownBy_setCell' A _ v') (.inr (hn.not_row (by decide) hr).symm), _, hn.set v'⟩, hb.setCell (p := ⟨w.heap.size + 1, 0, none⟩) (by simp) v', Nat.le_trans hz (KeepsWalks.setCell A _ v').size⟩
  case obj =>
    rintro pre A l o o' ⟨⟨v, hv, hr, u, hn⟩, hb, hz⟩ hl ho hc
    exact ⟨⟨v, boxed_putObj _ hv (by omega), ownsRow_putObj hr o' ho hc, u, boxed_putObj _ hn (by omega)⟩, hb.trans (below_putObj l o o' (by omega) ho), by simpa using hz⟩
  case assign =>
    intro l x W K hK
    gi_wp2
    exact hK
  case body =>
    rintro l pre x rest W hfull ⟨⟨v, hv, hrow, u0, hnb⟩, hB, hz⟩
    have hc := hv.cell
    have hpl : pre.length ≤ 64 := by have h1 := congrArg List.length hfull; have h2 := lsL_len (bv s); rw [List.length_append] at h1; omega
    gi_wp2_with (gi_at_builtin; refine wpListIn_append_own _ rfl _ _ 24 rfl w.heap.size 3 i0 (.int .i64 0) 1 8 Tryd.underlying24 hi hz0 hz1 hz2 rfl (by decide) _ _ _ rfl (hrow.alloc _) ⟨W.heap.size, 0, none⟩ 1 1 [.int .i64 x] rfl rfl (cell_one_new _ _ _) (by simp [Value.oneCell']) (by unfold maxLen; omega) (by omega) (by have := hB.size; simp; omega) ?_; intro v' w1 hown' hgrow _; obtain ⟨g', cap', rfl⟩ := ownsRow_succ hown'; obtain ⟨hv1, hv2, hr2, hk2, hb2⟩ := hv.appended (by decide) hrow hB.size (Nat.le_refl _) hown' hgrow; have hc1 := hv1.cell; have hf1 := hv1.frozen)
    have hsz2 : w.heap.size + 2 ≤ w1.heap.size := by have := hgrow.size; simp at this; omega
    have hbb : Boxed w1 (w.heap.size + 1) 23 u0 := (hnb.alloc _).kept hgrow (hnb.not_row (by decide) hrow)
    refine ⟨⟨⟨_, hv2, by simpa using hr2, u0, boxed_setCell _ hbb (by omega)⟩, hB.trans hb2, hsz2⟩, fun v hv => ?_⟩
    · exact boxed_setCell _ ((hv.alloc _).kept hgrow (hv.not_row (by decide) hrow)) (by omega)
  case done =>
    rintro D W hD ⟨⟨v, hv, hrow, u0, hnb⟩, hB, hz⟩ hK
    have hc := hv.cell
    gi_wp2
    refine ⟨by simp, .inl ⟨_, _, rfl, run_takeDeferred hK, ?_⟩⟩
    exact ⟨_, results_tmp rfl _ _ _, v, rfl, ownsRow_putObj hrow _ hK rfl, hB.trans (belowK_b (w := w) (Nat.le_refl _) W D _ _ (by omega) hK rfl rfl)⟩
theorem glAt_of {gl : Nat → Option (List T)} {S : Cells} {w : World} (hS : ∀ b o, S b o → b < w.heap.size) (hg : GlOk gl S w) : GlAt gl w.heap.size w := ⟨S, hS, Nat.le_refl _, hg⟩
/-- a row that is owned, as a list of one-celled things -/
theorem row_gl {S : Cells} {w w' : World} {e : TypeId} {v : Value} {xs : List T} {us : List Value} (hS : ∀ b o, S b o → b < w.heap.size) (hr : w'.ownsRow w.heap.size e 1 v xs.length us) (hx : ∀ x ∈ xs, Flat 1 x)
    (hu : ∀ (i : Nat) (x : T) (u : Value), xs[i]? = some x → us[i]? = some u → ∀ c ∈ x.cells, ∀ (S' : Cells), (∀ b o, S b o → S' b o) → RelT S' w' c u) :
    ∃ S' : Cells, (∀ b o, S b o → S' b o) ∧ (∀ b o, S' b o → S b o ∨ (w.heap.size ≤ b ∧ b < w'.heap.size)) ∧ RelT S' w' (.list 1 xs) v ∧
      (∀ b o sp n cap, v = .slice (some ⟨b, o, sp⟩) n cap → cap = n ∨ sp = none ∧ (∃ arr e, w'.heap[b]? = some (.cells arr e (0, 0)) ∧ o + cap * 1 ≤ arr.size) ∧ ∀ j, o + n * 1 ≤ j → j < o + cap * 1 → w.heap.size ≤ b ∧ ¬ S' b j) ∧
      (∀ n cap, v = .slice none n cap → cap = 0) := by
  obtain ⟨h1, h2⟩ := hr
  rcases h2 with ⟨rfl, hn⟩ | ⟨g, cap, cur, rfl, hb, hg, hnc, hcm, hcs, htk⟩
  · have : xs = [] := List.eq_nil_of_length_eq_zero hn
    subst this
    refine ⟨S, fun _ _ h => h, fun _ _ h => .inl h, .list 1 [] none 0 (fun _ _ => .nilFunc) (by simp) (fun h => absurd rfl h) (fun x hx => by cases hx) (fun i x hx => by simp at hx), fun b o sp n cap h => (by simp at h), fun n cap h => (by simp at h; omega)⟩
  · have hlt : g < w'.heap.size := (Array.getElem?_eq_some_iff.1 hg).1
    have hcell : ∀ i, i < xs.length → w'.cell? ⟨g, i, none⟩ = us[i]? := fun i hi => by
      rw [← htk, List.getElem?_take, if_pos (by omega)]
      simp [World.cell?, hg]
    refine ⟨fun b o => S b o ∨ (b = g ∧ o < xs.length), fun _ _ h => .inl h, ?_, ?_, ?_, fun n cap h => (by simp at h)⟩
    · rintro b o (h | ⟨rfl, _⟩)
      · exact .inl h
      · exact .inr ⟨hb, hlt⟩
    · refine .list 1 xs (some ⟨g, 0, none⟩) cap (fun i _ => us[i]?.getD .nilFunc) hnc (fun _ => ⟨g, 0, rfl, fun i j hi hj => ?_⟩) hx fun i x hi j c hc => ?_
      · have : 0 + i * 1 + j = i := by omega
        rw [this]
        refine ⟨.inr ⟨rfl, hi⟩, ?_⟩
        rw [hcell i hi]
        have : i < us.length := by omega
        simp [this]
      · have hi' : i < us.length := by have := (List.getElem?_eq_some_iff.1 hi).1; omega
        have e : us[i]? = some us[i] := by simp [hi']
        simp only [e, Option.getD_some]
        exact hu i x _ hi e c (List.mem_of_getElem? hc) _ (fun _ _ h => .inl h)
    · intro b o sp n cap' h
      simp only [Value.slice.injEq, Option.some.injEq, Addr.mk.injEq] at h
      obtain ⟨⟨rfl, rfl, rfl⟩, rfl, rfl⟩ := h
      refine .inr ⟨rfl, ⟨cur, e, hg, by omega⟩, fun j h3 h4 => ⟨hb, fun hc => ?_⟩⟩
      rcases hc with hc | ⟨_, hc⟩
      · have := hS _ _ hc; omega
      · omega
theorem flat_is {l : List Int} : ∀ x ∈ is l, Flat 1 x := by
  intro x hx
  unfold is at hx
  obtain ⟨n, _, rfl⟩ := List.mem_map.1 hx
  exact ⟨rfl, fun c hc => by simp [T.cells] at hc; subst hc; rfl⟩
theorem gl23_ok (s : Int) (hs : R64 s) : FnGl Tryd.prog tgl 23 [.int .u64 s] 1 (is (lsL (bv s))) := by
  refine ⟨⟨_, Tryd.func23, rfl, by decide⟩, fun S w args hS hgl hsz hrel => ?_⟩
  have ha : args = #[.int .u64 s] := by
    have h := RelT.int_of (hrel 0 _ (args[0]'(by simp at hsz; omega)) rfl (by simp))
    apply Array.ext
    · simpa using hsz
    · intro i h1 h2
      have : i = 0 := by simp at h2; omega
      subst this
      exact h
  subst ha
  refine ((callsIn_wide (n := 3)).1 (List_in 3 (Nat.le_refl _) s hs w (glAt_of hS hgl))).mono ?_
  rintro e W' ⟨v, rfl, hr, hb⟩
  refine ⟨v, rfl, hb, row_gl hS (us := (lsL (bv s)).map (Value.int .i64)) (by rw [is_len]; exact hr) flat_is fun i x u hx hu c hc S' _ => ?_⟩
  unfold is at hx
  rw [List.getElem?_map] at hx hu
  cases hh : (lsL (bv s))[i]? with
  | none => rw [hh] at hx; cases hx
  | some n =>
    rw [hh] at hx hu
    simp at hx hu; subst hx hu
    simp [T.cells] at hc; subst hc
    exact .int _ _
open Classical in
noncomputable def c23 : List T → Ans
  | [.int .u64 s] => .gl (R64 s) 1 (is (lsL (bv s)))
  | _ => .no
theorem got23 {vs : List T} {x : T} (h : Got (c23 vs) x) : FnOk Tryd.prog tgl 23 vs x := by
  unfold c23 at h
  split at h
  · exact (got_gl h).elim
  · exact (got_no h).elim
theorem gl23 (vs : List T) (p : Prop) (d : Decidable p) (sz : Nat) (xs : List T) (h : c23 vs = @Ans.gl p d sz xs) (hp : p) : FnGl Tryd.prog tgl 23 vs sz xs := by
  unfold c23 at h
  split at h
  · cases h; exact gl23_ok _ hp
  · cases h
theorem pk23 (vs : List T) (p : Prop) (d : Decidable p) (x : T) (h : c23 vs = @Ans.pk p d x) (hp : p) : FnOk Tryd.prog tgl 23 vs x := by
  unfold c23 at h
  split at h <;> cases h
end Go.Nx
