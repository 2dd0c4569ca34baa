/-
  A part of the machine, and of what is walked.
-/
import Derived.Test.YtdfjedkpclebgaaDoorP14
import Derived.Shelf.Abstract
import Derived.WalkKit
import Derived.OwnWalkIn
import Derived.TacticsInMore
import Derived.LoopNIn
import Derived.LoopIn
import Derived.Maps.AppendAt
section
set_option linter.unusedVariables false
set_option linter.unusedSimpArgs false
namespace Go.Nx
open Go Go.RowKit Go.Shelf Go.Proofs

attribute [local go_sem] Oper.semAt_some

theorem fn_calls1 {P : Program} {gl : Nat → Option (List T)} {f : FuncId} {x : T} {y : T} (h : FnOk P gl f [x] y) {S : Cells} {w : World} {u : Value} (hS : ∀ b o, S b o → b < w.heap.size) (hgl : GlOk gl S w) (hu : RelT S w x u) :
    Calls P f #[u] w fun e w' => ∃ v, e = .returned v ∧ RelT (fresh S w w') w' y v ∧ Below w.heap.size w w' :=
  h.2 S w #[u] hS hgl rfl fun i c u' hc hu' => by
    rcases i with _ | i
    · simp at hc hu'; subst hc hu'; exact hu
    · simp at hc
def GlAt (gl : Nat → Option (List T)) (n : Nat) (w : World) : Prop := ∃ S : Cells, (∀ b o, S b o → b < n) ∧ n ≤ w.heap.size ∧ GlOk gl S w
theorem GlAt.below {gl : Nat → Option (List T)} {n : Nat} {w w' : World} (h : GlAt gl n w) (hb : Below n w w') : GlAt gl n w' := by
  obtain ⟨S, h1, h2, h3⟩ := h
  refine ⟨S, h1, Nat.le_trans h2 hb.size, fun g cs hg i c hc => ?_⟩
  obtain ⟨k1, u, k2, k3⟩ := h3 g cs hg i c hc
  exact ⟨k1, u, (hb.cell (p := ⟨g, i, none⟩) (h1 _ _ k1)).trans k2, k3.mono (fun _ _ h => h) fun b o h => hb.cell (p := ⟨b, o, none⟩) (h1 _ _ h)⟩
theorem ctz_calls {s : Int} (hs : R64 s) {n : Nat} {w : World} (hg : GlAt tgl n w) : Calls Tryd.prog 81 #[.int .u64 s] w fun e w' => e = .returned (.int .i64 (ctz (bv s))) ∧ Below w.heap.size w w' := by
  obtain ⟨S, h1, h2, h3⟩ := hg
  refine (fn_calls1 (ok81 s hs) (fun b o h => Nat.lt_of_lt_of_le (h1 b o h) h2) h3 (.int _ _)).mono ?_
  rintro e w' ⟨v, rfl, hr, hb⟩
  cases hr
  exact ⟨rfl, hb⟩
noncomputable def leftC (C : Nat) (w : World) : Nat := match w.cell? ⟨C, 0, none⟩ with
  | some (.int _ n) => (lsL (bv n)).length
  | _ => 0
theorem leftC_eq {C : Nat} {w : World} {t : TypeId} {s : Int} (h : Boxed w C t (.int .u64 s)) : leftC C w = (lsL (bv s)).length := by
  unfold leftC; rw [h.cell]

set_option maxRecDepth 100000 in
set_option maxHeartbeats 1000000 in
theorem each1_in (n : Nat) (hn : 1 ≤ n) (l C n0 : Nat) (hC : n0 ≤ C) (s0 : Int) (hs0 : R64 s0) (J : List Int → World → Prop) (W : World) (hJu : AbUp J) (hJc : ∀ s A v, J s A → J s (A.setCell ⟨C, 0, none⟩ v))
    (hY : ∀ pre x rest W1, lsL (bv s0) = pre ++ x :: rest → J pre W1 → YieldAt Fence.wide (n - 1) Tryd.prog l #[.int .i64 x] W1 fun e W' => e = .returned (.bool true) ∧ J (pre ++ [x]) W' ∧ (∀ v, Boxed W1 C 26 v → Boxed W' C 26 v) ∧ Below n0 W1 W')
    (hG : GlAt tgl n0 W) (hB : Boxed W C 26 (.int .u64 s0)) (h0 : J [] W) :
    CallsIn Fence.wide n Tryd.prog 80 #[.func (.yield l) #[] #[], .pointer (some ⟨C, 0, none⟩)] W fun e W' => (∃ v, e = .returned v) ∧ J (lsL (bv s0)) W' := by
  refine callsIn_of_wp Tryd.func80 rfl trivial ?_ rfl
  simp only [Tryd.ntmps80, List.size_toArray, List.length_cons, List.length_nil, Nat.reduceAdd, Nat.reduceSub, Array.replicate_succ, Array.replicate_zero, List.push_toArray, List.append_toArray, List.nil_append, List.cons_append]
  gi_wp2
  gi_loopw [] (fun wr => ∃ (pre : List Int) (s : Int), R64 s ∧ lsL (bv s0) = pre ++ lsL (bv s) ∧ Boxed wr C 26 (.int .u64 s) ∧ J pre wr ∧ GlAt tgl n0 wr) (fun wr => leftC C wr)
  case atStart =>
    exact ⟨[], s0, hs0, rfl, hB, h0, hG⟩
  case round =>
    obtain ⟨pre, s, hs, hx, hb, hJ, hg⟩ := hrel
    have hc := hb.cell
    by_cases hz : s = 0
    · subst hz
      gi_wp2
      go_end0
      refine ⟨⟨_, rfl⟩, ?_⟩
      rw [hx, show bv 0 = 0 from rfl, lsL_zero, List.append_nil]
      exact hJ
    · have hbv : bv s ≠ 0 := fun e => hz (by rw [← iv_bv hs, e]; rfl)
      have hl := lsL_low (ctz_low hbv)
      have hk := (ctz_low hbv).1
      have hw : wrap64 ((ctz (bv s) : Int) + 1) = (ctz (bv s) : Int) + 1 := by unfold wrap64; omega
      have hfull : lsL (bv s0) = pre ++ ((ctz (bv s) : Int) + 1) :: lsL (bv s &&& (bv s - 1#64)) := by rw [hx, ← hl]
      gi_wp2_with (refine ⟨trivial, ?_⟩; gi_at_call 81; refine (callsIn_wide.2 (ctz_calls hs hg)).mono ?_; rintro e w' ⟨rfl, hb'⟩; obtain ⟨fn, tmps, assign, body, hy, hR⟩ := hY pre _ _ w' hfull (hJu _ _ _ hJ hb'); have hB' : Boxed w' C 26 (.int .u64 s) := below_at hb' hb)
      gi_wp2
      refine hR.mono ?_
      rintro e W3 ⟨rfl, hJ3, hk3, hb3⟩
      have hB3 := hk3 _ hB'
      have hc3 := hB3.cell
      have hf3 := hB3.frozen
      gi_wp2
      have hbits : bits BinOp.and IntKind.u64 s (IntKind.u64.wrap (s - 1)) = iv (bv s &&& (bv s - 1#64)) := by
        show andI .u64 s (IntKind.u64.wrap (s - 1)) = _
        rw [andI_u, wrap_iv (s - 1), bv_iv, bv_sub]; rfl
      rw [hbits]
      have hB4 := hB3.set (.int .u64 (iv (bv s &&& (bv s - 1#64))))
      refine ⟨⟨pre ++ [(ctz (bv s) : Int) + 1], iv (bv s &&& (bv s - 1#64)), R_iv _, ?_, hB4, hJc _ _ _ hJ3, ((hg.below (hb'.mono (by obtain ⟨_, _, h, _⟩ := hg; exact h))).below hb3).below ((Below.refl n0 W3).setCell (p := ⟨C, 0, none⟩) hC _)⟩, ?_⟩
      · rw [hx, bv_iv, hl, List.append_assoc]; rfl
      · rw [leftC_eq hB4, leftC_eq hb, bv_iv, hl]; simp
set_option maxHeartbeats 1000000 in
theorem each_in (n : Nat) (s : Int) (w : World) :
    CallsIn Fence.wide n Tryd.prog 51 #[.int .u64 s] w fun e w' => e = .returned (.func (.func 80) #[] #[.pointer (some ⟨w.heap.size, 0, none⟩)]) ∧ w' = w.alloc (.cells #[.int .u64 s] 26) := by
  refine callsIn_of_wp Tryd.func51 rfl trivial ?_ rfl
  simp only [Tryd.ntmps51, List.size_toArray, List.length_cons, List.length_nil, Nat.reduceAdd, Nat.reduceSub, Array.replicate_succ, Array.replicate_zero, List.push_toArray, List.append_toArray, List.nil_append, List.cons_append]
  gi_wp2
  go_ret
  exact ⟨rfl, rfl⟩
theorem infoI : (Tryd.prog.info? 3).map (fun i => (i.zero, i.size, i.bytes)) = some (some (.int .i64 0), 1, 8) := by kernel_rfl
set_option maxRecDepth 100000 in
set_option maxHeartbeats 2000000 in
theorem List_in (n : Nat) (hn : 3 ≤ n) (s : Int) (hs : R64 s) (w : World) (hg : GlAt tgl w.heap.size w) :
    CallsIn Fence.wide n Tryd.prog 15 #[.int .u64 s] w fun e W' => ∃ v, e = .returned v ∧ W'.ownsRow w.heap.size 3 1 v (lsL (bv s)).length ((lsL (bv s)).map (Value.int .i64)) ∧ Below w.heap.size w W' := by
  have h1 : 1 ≤ n := by omega
  obtain ⟨i0, hi, hz0, hz1, hz2⟩ := info_parts infoI
  refine callsIn_of_wp_marks Tryd.func15 rfl trivial ?_ rfl
  simp only [Tryd.ntmps15, List.size_toArray, List.length_cons, List.length_nil, Nat.reduceAdd, Nat.reduceSub, Array.replicate_succ, Array.replicate_zero, List.push_toArray, List.append_toArray, List.nil_append, List.cons_append]
  gi_wp2_with (refine ⟨trivial, ?_⟩; gi_at_call 51; refine (each_in (n - 1) s _).mono ?_; rintro e w' ⟨rfl, rfl⟩)
  have bO := Boxed.new w 39 (.slice none 0 0)
  have bN := Boxed.new (w.alloc (.cells #[.slice none 0 0] 39)) 26 (.int .u64 s)
  rw [World.size_alloc] at bN
  have hB0 : Below w.heap.size w ((w.alloc (.cells #[.slice none 0 0] 39)).alloc (.cells #[.int .u64 s] 26)) := ((Below.refl _ w).alloc (Nat.le_refl _) _).alloc (by simp) _
  have hG1 := hg.below hB0
  obtain ⟨w1, hw1⟩ : ∃ w1, (w.alloc (.cells #[.slice none 0 0] 39)).alloc (.cells #[.int .u64 s] 26) = w1 := ⟨_, rfl⟩
  have hsz : w1.heap.size = w.heap.size + 2 := by rw [← hw1]; simp
  have bO1 := bO.alloc (.cells #[.int .u64 s] 26)
  rw [hw1] at bO1 bN hB0 hG1 ⊢
  refine wpIn_rangeFunc_C (full := lsL (bv s)) (C := w.heap.size + 1) (n0 := w.heap.size) (t := 26) (w0 := w1) (encs := fun x => #[.int .i64 x]) rfl h1 (gf := 80) (lb := #[.pointer (some ⟨w.heap.size + 1, 0, none⟩)]) rfl trivial (enters_of Tryd.func80 (by kernel_rfl) rfl)
    (fun l J W hb hu hc hy h0 => each1_in _ (by omega) l (w.heap.size + 1) w.heap.size (by omega) s hs J W hu hc hy (hG1.below (hb.mono (by omega))) (below_at hb bN) h0) (by omega) (by omega) (Below.refl _ _) (fun _ => rfl)
    (fun pre W => (∃ v, Boxed W w.heap.size 39 v ∧ W.ownsRow w.heap.size 3 1 v pre.length (pre.map (Value.int .i64)) ∧ ∃ u, Boxed W (w.heap.size + 1) 26 u) ∧ Below w.heap.size w W ∧ w.heap.size + 2 ≤ W.heap.size)
    ?up ?cell ?obj ⟨⟨_, bO1, World.ownsRow_nil _ _ _ _, _, bN⟩, hB0, by omega⟩
    (fun x => { tmps := #[.int .u64 s, undef, .slice none 0 0, .pointer (some ⟨w.heap.size, 0, none⟩), .int .i64 x, .int .u64 s, .func (.func 80) #[] #[.pointer (some ⟨w.heap.size + 1, 0, none⟩)], .int .i64 x, undef, undef, undef, undef, undef], defers := [] }) ?assign ?body ?done
  case up =>
    rintro pre A B' ⟨⟨v, hv, hr, u, hn⟩, hb, hz⟩ hb'
    exact ⟨⟨v, below_at hb' hv, ownsRow_below hr hb', u, below_at hb' hn⟩, hb.trans (hb'.mono (by omega)), Nat.le_trans hz hb'.size⟩
  case cell =>
    rintro pre A v' ⟨⟨v, hv, hr, u, hn⟩, hb, hz⟩
    exact ⟨⟨v, boxed_setCell _ hv (by omega), hr.kept (grownBy_setCell' A _ v') (.inr (hn.not_row (by decide) hr).symm), _, hn.set v'⟩, hb.setCell (p := ⟨w.heap.size + 1, 0, none⟩) (by simp) v', Nat.le_trans hz (KeepsWalks.setCell A _ v').size⟩
  case obj =>
    rintro pre A l o o' ⟨⟨v, hv, hr, u, hn⟩, hb, hz⟩ hl ho hc
    exact ⟨⟨v, boxed_putObj _ hv (by omega), ownsRow_putObj hr o' ho hc, u, boxed_putObj _ hn (by omega)⟩, hb.trans (below_putObj l o o' (by omega) ho), by simpa using hz⟩
  case assign =>
    intro l x W K hK
    gi_wp2
    exact hK
  case body =>
    rintro l pre x rest W hfull ⟨⟨v, hv, hrow, u0, hnb⟩, hB, hz⟩
    have hc := hv.cell
    have hpl : pre.length ≤ 64 := by have h1 := congrArg List.length hfull; have h2 := lsL_len (bv s); rw [List.length_append] at h1; omega
    gi_wp2_with (gi_at_builtin; refine wpListIn_append_own _ rfl _ _ 39 rfl w.heap.size 3 i0 (.int .i64 0) 1 8 Tryd.underlying39 hi hz0 hz1 hz2 rfl (by decide) _ _ _ rfl (hrow.alloc _) ⟨W.heap.size, 0, none⟩ 1 1 [.int .i64 x] rfl rfl (cell_one_new _ _ _) (by simp [Value.oneCell']) (by unfold maxLen; omega) (by omega) (by have := hB.size; simp; omega) ?_; intro v' w1 hown' hgrow _; obtain ⟨g', cap', rfl⟩ := ownsRow_succ hown'; obtain ⟨hv1, hv2, hr2, hk2, hb2⟩ := hv.appended (by decide) hrow hB.size (Nat.le_refl _) hown' hgrow; have hc1 := hv1.cell; have hf1 := hv1.frozen)
    have hsz2 : w.heap.size + 2 ≤ w1.heap.size := by have := hgrow.size; simp at this; omega
    have hbb : Boxed w1 (w.heap.size + 1) 26 u0 := (hnb.alloc _).kept hgrow (hnb.not_row (by decide) hrow)
    refine ⟨⟨⟨_, hv2, by simpa using hr2, u0, boxed_setCell _ hbb (by omega)⟩, hB.trans hb2, hsz2⟩, fun v hv => ?_⟩
    · exact boxed_setCell _ ((hv.alloc _).kept hgrow (hv.not_row (by decide) hrow)) (by omega)
  case done =>
    rintro D W hD ⟨⟨v, hv, hrow, u0, hnb⟩, hB, hz⟩ hK
    have hc := hv.cell
    gi_wp2
    refine ⟨by simp, .inl ⟨_, _, rfl, run_takeDeferred hK, ?_⟩⟩
    exact ⟨_, results_tmp rfl _ _ _, v, rfl, ownsRow_putObj hrow _ hK rfl, hB.trans (belowK_b (w := w) (Nat.le_refl _) W D _ _ (by omega) hK rfl rfl)⟩
theorem glAt_of {gl : Nat → Option (List T)} {S : Cells} {w : World} (hS : ∀ b o, S b o → b < w.heap.size) (hg : GlOk gl S w) : GlAt gl w.heap.size w := ⟨S, hS, Nat.le_refl _, hg⟩
theorem row_gl {S : Cells} {w w' : World} {e : TypeId} {v : Value} {xs : List T} {us : List Value} (hS : ∀ b o, S b o → b < w.heap.size) (hr : w'.ownsRow w.heap.size e 1 v xs.length us) (hx : ∀ x ∈ xs, Flat 1 x)
    (hu : ∀ (i : Nat) (x : T) (u : Value), xs[i]? = some x → us[i]? = some u → ∀ c ∈ x.cells, ∀ (S' : Cells), (∀ b o, S b o → S' b o) → RelT S' w' c u) :
    ∃ S' : Cells, (∀ b o, S b o → S' b o) ∧ (∀ b o, S' b o → S b o ∨ (w.heap.size ≤ b ∧ b < w'.heap.size)) ∧ RelT S' w' (.list 1 xs) v ∧
      (∀ b o sp n cap, v = .slice (some ⟨b, o, sp⟩) n cap → cap = n ∨ sp = none ∧ (∃ arr e, w'.heap[b]? = some (.cells arr e (0, 0)) ∧ o + cap * 1 ≤ arr.size) ∧ ∀ j, o + n * 1 ≤ j → j < o + cap * 1 → w.heap.size ≤ b ∧ ¬ S' b j) ∧
      (∀ n cap, v = .slice none n cap → cap = 0) := by
  obtain ⟨h1, h2⟩ := hr
  rcases h2 with ⟨rfl, hn⟩ | ⟨g, cap, cur, rfl, hb, hg, hnc, hcm, hcs, htk⟩
  · have : xs = [] := List.eq_nil_of_length_eq_zero hn
    subst this
    refine ⟨S, fun _ _ h => h, fun _ _ h => .inl h, .list 1 [] none 0 (fun _ _ => .nilFunc) (by simp) (fun h => absurd rfl h) (fun x hx => by cases hx) (fun i x hx => by simp at hx), fun b o sp n cap h => (by simp at h), fun n cap h => (by simp at h; omega)⟩
  · have hlt : g < w'.heap.size := (Array.getElem?_eq_some_iff.1 hg).1
    have hcell : ∀ i, i < xs.length → w'.cell? ⟨g, i, none⟩ = us[i]? := fun i hi => by
      rw [← htk, List.getElem?_take, if_pos (by omega)]
      simp [World.cell?, hg]
    refine ⟨fun b o => S b o ∨ (b = g ∧ o < xs.length), fun _ _ h => .inl h, ?_, ?_, ?_, fun n cap h => (by simp at h)⟩
    · rintro b o (h | ⟨rfl, _⟩)
      · exact .inl h
      · exact .inr ⟨hb, hlt⟩
    · refine .list 1 xs (some ⟨g, 0, none⟩) cap (fun i _ => us[i]?.getD .nilFunc) hnc (fun _ => ⟨g, 0, rfl, fun i j hi hj => ?_⟩) hx fun i x hi j c hc => ?_
      · have : 0 + i * 1 + j = i := by omega
        rw [this]
        refine ⟨.inr ⟨rfl, hi⟩, ?_⟩
        rw [hcell i hi]
        have : i < us.length := by omega
        simp [this]
      · have hi' : i < us.length := by have := (List.getElem?_eq_some_iff.1 hi).1; omega
        have e : us[i]? = some us[i] := by simp [hi']
        simp only [e, Option.getD_some]
        exact hu i x _ hi e c (List.mem_of_getElem? hc) _ (fun _ _ h => .inl h)
    · intro b o sp n cap' h
      simp only [Value.slice.injEq, Option.some.injEq, Addr.mk.injEq] at h
      obtain ⟨⟨rfl, rfl, rfl⟩, rfl, rfl⟩ := h
      refine .inr ⟨rfl, ⟨cur, e, hg, by omega⟩, fun j h3 h4 => ⟨hb, fun hc => ?_⟩⟩
      rcases hc with hc | ⟨_, hc⟩
      · have := hS _ _ hc; omega
      · omega
theorem flat_is {l : List Int} : ∀ x ∈ is l, Flat 1 x := by
  intro x hx
  unfold is at hx
  obtain ⟨n, _, rfl⟩ := List.mem_map.1 hx
  exact ⟨rfl, fun c hc => by simp [T.cells] at hc; subst hc; rfl⟩
theorem gl15_ok (s : Int) (hs : R64 s) : FnGl Tryd.prog tgl 15 [.int .u64 s] 1 (is (lsL (bv s))) := by
  refine ⟨⟨_, Tryd.func15, rfl, by decide⟩, fun S w args hS hgl hsz hrel => ?_⟩
  have ha : args = #[.int .u64 s] := by
    have h := RelT.int_of (hrel 0 _ (args[0]'(by simp at hsz; omega)) rfl (by simp))
    apply Array.ext
    · simpa using hsz
    · intro i h1 h2
      have : i = 0 := by simp at h2; omega
      subst this
      exact h
  subst ha
  refine ((callsIn_wide (n := 3)).1 (List_in 3 (Nat.le_refl _) s hs w (glAt_of hS hgl))).mono ?_
  rintro e W' ⟨v, rfl, hr, hb⟩
  refine ⟨v, rfl, hb, row_gl hS (us := (lsL (bv s)).map (Value.int .i64)) (by rw [is_len]; exact hr) flat_is fun i x u hx hu c hc S' _ => ?_⟩
  unfold is at hx
  rw [List.getElem?_map] at hx hu
  cases hh : (lsL (bv s))[i]? with
  | none => rw [hh] at hx; cases hx
  | some n =>
    rw [hh] at hx hu
    simp at hx hu; subst hx hu
    simp [T.cells] at hc; subst hc
    exact .int _ _
open Classical in
noncomputable def c15 : List T → Ans
  | [.int .u64 s] => .gl (R64 s) 1 (is (lsL (bv s)))
  | _ => .no
theorem got15 {vs : List T} {x : T} (h : Got (c15 vs) x) : FnOk Tryd.prog tgl 15 vs x := by
  unfold c15 at h
  split at h
  · exact (got_gl h).elim
  · exact (got_no h).elim
theorem gl15 (vs : List T) (p : Prop) (d : Decidable p) (sz : Nat) (xs : List T) (h : c15 vs = @Ans.gl p d sz xs) (hp : p) : FnGl Tryd.prog tgl 15 vs sz xs := by
  unfold c15 at h
  split at h
  · cases h; exact gl15_ok _ hp
  · cases h
theorem pk15 (vs : List T) (p : Prop) (d : Decidable p) (x : T) (h : c15 vs = @Ans.pk p d x) (hp : p) : FnOk Tryd.prog tgl 15 vs x := by
  unfold c15 at h
  split at h <;> cases h
end Go.Nx
end
section
set_option linter.unusedVariables false
namespace Go.Nx
open Go.RowKit
open Classical

def rs (L : List (List Int)) : List T := L.map fun l => .list 1 (is l)
def rowsOf (xs : List T) : List (List Int) := xs.map fun
  | .list _ ys => nums ys
  | _ => []
@[simp] theorem rowsOf_rs (L : List (List Int)) : rowsOf (rs L) = L := by simp [rowsOf, rs, Function.comp_def]
@[simp] theorem rs_len (L : List (List Int)) : (rs L).length = L.length := by simp [rs]
def Sz (xs : List T) : Prop := xs.length * 8 ≤ maxBytes
def IsR (xs : List T) : Prop := ∃ L, xs = rs L ∧ L.length ≤ 9223372036854775807 ∧ ∀ l ∈ L, (IsI (is l) ∧ Sz (is l))
theorem row_mem {L : List (List Int)} {o : Int} (h : 1 ≤ o) (h' : o ≤ L.length) : row L o ∈ L := by
  unfold row
  have : (o - 1).toNat < L.length := by omega
  rw [List.getElem?_eq_getElem this]; simp
theorem nth_rs {L : List (List Int)} {i : Int} {K : T → Prop} (h0 : 0 ≤ i) (h1 : i < L.length) (h : K (.list 1 (is (row L (i + 1))))) : nthK (rs L) i K := by
  refine nthK_of (.list 1 (is (row L (i + 1)))) h0 ?_ h
  have : i.toNat < L.length := by omega
  have e : (i + 1 - 1).toNat = i.toNat := by omega
  simp [rs, row, e, this]

def nextL (L : List (List Int)) (l : List Int) : B := l.foldl (fun acc o => acc ||| (ofL (row L o) &&& own L)) 0
theorem nextL_snoc (L : List (List Int)) (l : List Int) (o : Int) : nextL L (l ++ [o]) = nextL L l ||| (ofL (row L o) &&& own L) := by simp [nextL]
theorem nextL_take (L : List (List Int)) {l : List Int} {k : Nat} (h : k < l.length) : nextL L (l.take (k + 1)) = nextL L (l.take k) ||| (ofL (row L (at0 l k)) &&& own L) := by
  have e : l[k]? = some (at0 l k) := by simp [at0, h]
  rw [List.take_add_one, e]
  exact nextL_snoc _ _ _
theorem has_nextL (L : List (List Int)) (l : List Int) (v : Int) : has (nextL L l) v = true ↔ ∃ o ∈ l, edge L o v := by
  refine snoc_ind (Q := fun l => has (nextL L l) v = true ↔ ∃ o ∈ l, edge L o v) ?_ ?_ l
  · have : has (nextL L []) v = false := has_zero v
    rw [this]; simp
  · intro l x ih
    rw [nextL_snoc, has_or, Bool.or_eq_true, ih, has_and, has_ofL, Bool.and_eq_true, Bool.and_eq_true, decide_eq_true_eq]
    constructor
    · rintro (⟨o, h1, h2⟩ | ⟨⟨h1, h2⟩, h3⟩)
      · exact ⟨o, by simp [h1], h2⟩
      · exact ⟨x, by simp, h2, h3⟩
    · rintro ⟨o, h1, h2⟩
      rcases List.mem_append.1 h1 with h1 | h1
      · exact .inl ⟨o, h1, h2⟩
      · rw [List.mem_singleton] at h1; subst h1
        exact .inr ⟨⟨own_obj h2.2, h2.1⟩, h2.2⟩
def nextB (L : List (List Int)) (s : B) : B := nextL L (lsL s)
theorem has_nextB (L : List (List Int)) (s : B) (v : Int) : has (nextB L s) v = true ↔ ∃ o, has s o = true ∧ edge L o v := by
  unfold nextB; rw [has_nextL]; simp only [mem_lsL]

theorem lev_congr {L : List (List Int)} {op op' : Int → Bool} {s s' : B} (h1 : ∀ o, has (own L) o = true → op o = op' o) (h2 : ∀ o, has (own L) o = true → has s o = has s' o) : ∀ {k : Nat} {v : Int}, Lev L op s k v → Lev L op' s' k v
  | 0, v, h => ⟨by rw [← h2 v h.2]; exact h.1, h.2⟩
  | k + 1, v, ⟨o, a, b, c⟩ => ⟨o, lev_congr h1 h2 a, by rw [← h1 o (lev_own a)]; exact b, c⟩
theorem rchB_congr {L : List (List Int)} {op op' : Int → Bool} {s s' : B} (h1 : ∀ o, has (own L) o = true → op o = op' o) (h2 : ∀ o, has (own L) o = true → has s o = has s' o) : rchB L op s = rchB L op' s' := by
  apply ext_has
  intro v _ _
  rw [Bool.eq_iff_iff, has_rchB, has_rchB]
  exact ⟨fun ⟨k, h⟩ => ⟨k, lev_congr h1 h2 h⟩, fun ⟨k, h⟩ => ⟨k, lev_congr (fun o ho => (h1 o ho).symm) (fun o ho => (h2 o ho).symm) h⟩⟩
structure VInv (L : List (List Int)) (op : Int → Bool) (s x : B) : Prop where
  snd : ∀ v, has x v = true → Rch L op s v
  root : ∀ v, has s v = true → has (own L) v = true → has x v = true
theorem VInv.init (L : List (List Int)) (op : Int → Bool) (s : B) : VInv L op s (s &&& own L) :=
  ⟨fun v h => by rw [has_and, Bool.and_eq_true] at h; exact rch_root h.1 h.2, fun v h h' => by rw [has_and, h, h']; rfl⟩
theorem VInv.step {L : List (List Int)} {op : Int → Bool} {s x y : B} (h : VInv L op s x) (hy : ∀ o, has y o = true ↔ has x o = true ∧ op o = true) : VInv L op s (x ||| nextB L y) := by
  refine ⟨fun v hv => ?_, fun v h1 h2 => by rw [has_or, h.root v h1 h2]; rfl⟩
  rw [has_or, Bool.or_eq_true, has_nextB] at hv
  rcases hv with hv | ⟨o, h1, h2⟩
  · exact h.snd v hv
  · have := (hy o).1 h1
    exact rch_step (h.snd o this.1) this.2 h2
theorem VInv.fin {L : List (List Int)} {op : Int → Bool} {s x y : B} (h : VInv L op s x) (hy : ∀ o, has y o = true ↔ has x o = true ∧ op o = true) (he : x ||| nextB L y = x) : x = rchB L op s := by
  apply ext_has
  intro v _ _
  rw [Bool.eq_iff_iff, has_rchB]
  refine ⟨h.snd v, fun hv => ?_⟩
  refine rch_ind (Q := fun v => has x v = true) h.root (fun o u _ h1 h2 h3 => ?_) hv
  rw [← he, has_or, Bool.or_eq_true]
  exact .inr ((has_nextB L y u).2 ⟨o, (hy o).2 ⟨h1, h2⟩, h3⟩)
theorem or_lt {x z : B} (h : (x ||| z == x) = false) : x.toNat < (x ||| z).toNat := by
  have h1 : x.toNat ≤ (x ||| z).toNat := by rw [BitVec.toNat_or]; exact Nat.left_le_or
  have h2 : x.toNat ≠ (x ||| z).toNat := fun e => by
    have : x ||| z = x := BitVec.eq_of_toNat_eq e.symm
    rw [this] at h; simp at h
  omega

theorem mid_ex {L : List (List Int)} {op : Int → Bool} {s : B} {o : Int} : ∀ (n i : Nat) (met wait : List Int), n + i = (row L o).length → WMid L op s o i met wait → ∃ met' wait', WMid L op s o (row L o).length met' wait' ∧ met'.count 0 + wait'.length = met.count 0 + wait.length
  | 0, i, met, wait, hi, h => ⟨met, wait, by rw [← hi, Nat.zero_add]; exact h, rfl⟩
  | n + 1, i, met, wait, hi, h => by
    have hlt : i < (row L o).length := by omega
    have hv : (row L o)[i]? = some (row L o)[i] := by simp [hlt]
    by_cases hh : has (own L) (row L o)[i] = true ∧ mt met (row L o)[i] = 0
    · have g := h.new hv hh.1 hh.2
      obtain ⟨m', w', h1, h2⟩ := mid_ex n (i + 1) _ _ (by omega) g
      refine ⟨m', w', h1, ?_⟩
      have hvo := own_obj hh.1
      have hr := obj_iff.1 hvo
      have hg : met[((row L o)[i] - 1).toNat]? = some 0 := by
        have : ((row L o)[i] - 1).toNat < met.length := by rw [h.inv.len]; omega
        have hz := hh.2
        unfold mt at0 at hz
        rw [List.getElem?_eq_getElem this] at hz ⊢
        simpa using hz
      obtain ⟨r, hr'⟩ := h.ne
      have how := h.inv.wt o (by rw [hr']; simp)
      have := count_set_zero hg (x := mt met o + 1) (by omega)
      rw [h2, List.length_append, List.length_singleton]; omega
    · exact mid_ex n (i + 1) met wait (by omega) (h.old hv fun hw hz => hh ⟨hw, hz⟩)
theorem walk_ex {L : List (List Int)} {op : Int → Bool} {s : B} : ∀ (n : Nat) (met wait : List Int), met.count 0 + wait.length ≤ n → WInv L op s met wait → ∃ met', WInv L op s met' []
  | n, met, [], _, h => ⟨met, h⟩
  | 0, met, o :: r, hn, h => by simp at hn
  | n + 1, met, o :: r, hn, h => by
    cases ho : op o with
    | false => exact walk_ex n met r (by simp at hn; omega) (h.skip ho)
    | true =>
      obtain ⟨m', w', h1, h2⟩ := mid_ex (row L o).length 0 met (o :: r) (by omega) (WMid.start h ho)
      obtain ⟨r', rfl⟩ := h1.ne
      exact walk_ex n m' r' (by simp at h2 hn; omega) (h1.done (Nat.le_refl _))
theorem metF_inv (L : List (List Int)) (op : Int → Bool) (s : B) : WInv L op s (metF L op s) [] := by
  obtain ⟨m, h⟩ := walk_ex _ _ _ (Nat.le_refl _) (WInv.init L op s)
  rw [← h.fin]; exact h
theorem metF_len (L : List (List Int)) (op : Int → Bool) (s : B) : (metF L op s).length = 64 := by simp [metF]
theorem mt_metF (L : List (List Int)) (op : Int → Bool) (s : B) {v : Int} (hv : obj v = true) : mt (metF L op s) v = distI L op s v + 1 := by
  have := obj_iff.1 hv
  have e : ((((v - 1).toNat : Nat) : Int) + 1) = v := by omega
  unfold mt at0 metF
  rw [List.getElem?_map, List.getElem?_range (by omega)]
  simp only [Option.map_some, Option.getD_some, e]
theorem distI_range (L : List (List Int)) (op : Int → Bool) (s : B) (v : Int) : -1 ≤ distI L op s v ∧ (0 ≤ distI L op s v ↔ Rch L op s v) := by
  by_cases h : Rch L op s v
  · obtain ⟨d, h1, _⟩ := distI_yes h
    rw [h1]; exact ⟨by omega, fun _ => h, fun _ => by omega⟩
  · rw [distI_no h]; exact ⟨by omega, fun h' => by omega, fun h' => absurd h' h⟩
theorem count_drop {l : List Int} {n : Nat} (h : ∀ i, n ≤ i → i < l.length → l[i]? = some 0) : l.length ≤ l.count 0 + n := by
  have h1 : (l.drop n).count 0 = (l.drop n).length := by
    rw [List.count_eq_length]
    intro x hx
    obtain ⟨i, hi⟩ := List.mem_iff_getElem?.1 hx
    rw [List.getElem?_drop] at hi
    have hlt := (List.getElem?_eq_some_iff.1 hi).1
    rw [h (n + i) (by omega) hlt] at hi
    simpa using hi
  have h2 : l.count 0 = (l.take n).count 0 + (l.drop n).count 0 := by rw [← List.count_append, List.take_append_drop]
  rw [List.length_drop] at h1
  omega
theorem distI_le (L : List (List Int)) (op : Int → Bool) (s : B) {v : Int} (h : Rch L op s v) : distI L op s v ≤ min L.length 64 := by
  have hi := metF_inv L op s
  have hv := own_obj (rch_own h)
  have h1 := hi.bnd v hv
  rw [mt_metF L op s hv] at h1
  have h2 := count_drop (l := metF L op s) (n := min L.length 64) fun i h1 h2 => by
    rw [metF_len] at h2
    unfold metF
    rw [List.getElem?_map, List.getElem?_range h2, Option.map_some, distI_no fun hr => by
      have := own_le (rch_own hr); omega]
    rfl
  rw [metF_len] at h2
  omega

noncomputable def levB (L : List (List Int)) (op : Int → Bool) (s : B) (d : Nat) : B := ofP fun v => ∃ k, k ≤ d ∧ Lev L op s k v
theorem has_levB {L : List (List Int)} {op : Int → Bool} {s : B} {d : Nat} {v : Int} : has (levB L op s d) v = true ↔ ∃ k, k ≤ d ∧ Lev L op s k v := by
  unfold levB; rw [has_ofP]
  exact ⟨fun h => h.2, fun h => ⟨by obtain ⟨k, _, hk⟩ := h; exact own_obj (lev_own hk), h⟩⟩
theorem levB_zero (L : List (List Int)) (op : Int → Bool) (s : B) : levB L op s 0 = s &&& own L := by
  apply ext_has
  intro v _ _
  rw [Bool.eq_iff_iff, has_levB, has_and, Bool.and_eq_true]
  constructor
  · rintro ⟨k, hk, h⟩
    obtain rfl : k = 0 := by omega
    exact h
  · exact fun h => ⟨0, Nat.le_refl _, h⟩
theorem levB_succ (L : List (List Int)) (s : B) (d : Nat) : levB L (fun _ => true) s d ||| nextB L (levB L (fun _ => true) s d) = levB L (fun _ => true) s (d + 1) := by
  apply ext_has
  intro v _ _
  rw [Bool.eq_iff_iff, has_or, Bool.or_eq_true, has_nextB, has_levB, has_levB]
  constructor
  · rintro (⟨k, hk, h⟩ | ⟨o, ho, he⟩)
    · exact ⟨k, by omega, h⟩
    · obtain ⟨k, hk, h⟩ := has_levB.1 ho
      exact ⟨k + 1, by omega, o, h, rfl, he⟩
  · rintro ⟨k, hk, h⟩
    by_cases e : k ≤ d
    · exact .inl ⟨k, e, h⟩
    · obtain rfl : k = d + 1 := by omega
      obtain ⟨o, h1, _, h2⟩ := h
      exact .inr ⟨o, has_levB.2 ⟨d, Nat.le_refl _, h1⟩, h2⟩
noncomputable def distT (L : List (List Int)) (s : B) (d : Nat) (v : Int) : Int := if distI L (fun _ => true) s v < d then distI L (fun _ => true) s v else -1
theorem distT_one (L : List (List Int)) (s : B) (v : Int) : distT L s 1 v = if has (s &&& own L) v = true then 0 else -1 := by
  have hl := @has_levB L (fun _ => true) s 0 v
  rw [levB_zero L (fun _ => true) s] at hl
  unfold distT
  have hr := distI_range L (fun _ => true) s v
  by_cases e : Rch L (fun _ => true) s v
  · obtain ⟨d, h1, h2, h3⟩ := distI_yes e
    by_cases h' : has (s &&& own L) v = true
    · obtain ⟨k, hk, hl'⟩ := hl.1 h'
      have := h3 k hl'
      rw [if_pos h', if_pos (by omega)]; omega
    · have : d ≠ 0 := fun e0 => h' (hl.2 ⟨0, Nat.le_refl _, by rw [← e0]; exact h2⟩)
      rw [if_neg h', if_neg (by omega)]
  · have h' : ¬ has (s &&& own L) v = true := fun h => by
      obtain ⟨k, _, hl'⟩ := hl.1 h
      exact e ⟨k, hl'⟩
    rw [if_neg h', distI_no e, if_pos (by omega)]
theorem distT_succ (L : List (List Int)) (s : B) (d : Nat) (v : Int) : distT L s (d + 2) v = if has (nextB L (levB L (fun _ => true) s d)) v = true ∧ distT L s (d + 1) v < 0 then (d : Int) + 1 else distT L s (d + 1) v := by
  have hr := distI_range L (fun _ => true) s v
  have hn : has (nextB L (levB L (fun _ => true) s d)) v = true → ∃ k, k ≤ d + 1 ∧ Lev L (fun _ => true) s k v := by
    rw [has_nextB]
    rintro ⟨o, ho, he⟩
    obtain ⟨k, hk, h⟩ := has_levB.1 ho
    exact ⟨k + 1, by omega, o, h, rfl, he⟩
  have hu : ∀ n : Nat, distT L s n v = if distI L (fun _ => true) s v < n then distI L (fun _ => true) s v else -1 := fun _ => rfl
  by_cases e : Rch L (fun _ => true) s v
  · obtain ⟨c, h1, h2, h3⟩ := distI_yes e
    by_cases c1 : c ≤ d
    · have e1 : distT L s (d + 1) v = c := by rw [hu, if_pos (by omega)]; exact h1
      have e2 : distT L s (d + 2) v = c := by rw [hu, if_pos (by omega)]; exact h1
      rw [e1, e2, if_neg (fun h => by omega)]
    · have e1 : distT L s (d + 1) v = -1 := by rw [hu, if_neg (by omega)]
      rw [e1]
      by_cases c2 : c = d + 1
      · have e2 : distT L s (d + 2) v = c := by rw [hu, if_pos (by omega)]; exact h1
        subst c2
        obtain ⟨o, g1, _, g2⟩ := h2
        rw [e2, if_pos ⟨(has_nextB L _ v).2 ⟨o, has_levB.2 ⟨d, Nat.le_refl _, g1⟩, g2⟩, by omega⟩]
        omega
      · have e2 : distT L s (d + 2) v = -1 := by rw [hu, if_neg (by omega)]
        rw [e2, if_neg]
        rintro ⟨h4, _⟩
        obtain ⟨k, hk, hl⟩ := hn h4
        have := h3 k hl
        omega
  · have hd := distI_no e
    have hn' : ¬ has (nextB L (levB L (fun _ => true) s d)) v = true := fun h => by
      obtain ⟨k, hk, hl⟩ := hn h
      exact e ⟨k, hl⟩
    rw [if_neg (fun h => hn' h.1), hu, hu, hd, if_pos (by omega), if_pos (by omega)]
theorem distT_fin (L : List (List Int)) (s : B) (v : Int) : distT L s (min L.length 64 + 1) v = distI L (fun _ => true) s v := by
  unfold distT
  rw [if_pos]
  by_cases e : Rch L (fun _ => true) s v
  · have := distI_le L (fun _ => true) s e
    omega
  · rw [distI_no e]; omega
def ofM (m : List Int) : B := ofL ((lsL (first 64)).filter fun v => decide (0 < mt m v))
theorem has_ofM (m : List Int) (v : Int) : has (ofM m) v = true ↔ obj v = true ∧ 0 < mt m v := by
  unfold ofM
  rw [has_ofL, Bool.and_eq_true, decide_eq_true_eq, List.mem_filter, mem_lsL, has_first, decide_eq_true_eq]
  constructor
  · rintro ⟨h1, h2, h3⟩; exact ⟨h1, h3⟩
  · rintro ⟨h1, h3⟩
    have := obj_iff.1 h1
    exact ⟨h1, by rw [h1, decide_eq_true this.2]; rfl, h3⟩
theorem ofM_metF (L : List (List Int)) (op : Int → Bool) (s : B) : ofM (metF L op s) = rchB L op s := by
  apply ext_has
  intro v h1 h2
  have hv := obj_t h1 h2
  have hr := distI_range L op s v
  rw [Bool.eq_iff_iff, has_ofM, has_rchB, mt_metF L op s hv, ← hr.2]
  constructor
  · rintro ⟨_, h⟩; omega
  · intro h; exact ⟨hv, by omega⟩
end Go.Nx
end
section
set_option linter.unusedVariables false
set_option linter.unusedSimpArgs false
set_option maxRecDepth 20000
set_option maxHeartbeats 4000000
namespace Go.Nx
open Go.RowKit Go.Proofs

theorem is_snoc (a : List Int) (n : Int) : is a ++ [T.int .i64 n] = is (a ++ [n]) := by simp [is]
theorem ofL_take {l : List Int} {k : Nat} (h : k < l.length) : ofL (l.take (k + 1)) = add (ofL (l.take k)) (at0 l k) := by
  have e : l[k]? = some (at0 l k) := by simp [at0, h]
  rw [List.take_add_one, e]
  exact ofL_snoc _ _
noncomputable def lE3 : List (Nat × (List T → Ans)) := (15, c15) :: lE2
noncomputable def iE3 : List (Nat × Pt) := iE2
noncomputable abbrev E3 : Env := En tgl lE3 iE3
theorem env_E3 : EnvOk Tryd.prog E3 := (env_fn env_E2 (fun _ _ => got15) gl15 pk15)
end Go.Nx
end
section
set_option linter.unusedVariables false
set_option maxRecDepth 100000
namespace Go.Nx
open Go.RowKit
namespace Pop
def X : List Nat → Nat
  | [] => 0
  | b :: r => b + 256 * X r
theorem and_split (a q c d : Nat) (ha : a < 256) (hc : c < 256) : (a + 256 * q) &&& (c + 256 * d) = (a &&& c) + 256 * (q &&& d) := by
  have h : (a &&& c) < 2 ^ 8 := Nat.lt_of_le_of_lt Nat.and_le_left ha
  apply Nat.eq_of_testBit_eq
  intro i
  rw [Nat.testBit_and, Nat.add_comm a, Nat.add_comm c, Nat.add_comm (a &&& c), show (256 : Nat) = 2 ^ 8 from rfl, Nat.testBit_two_pow_mul_add _ ha, Nat.testBit_two_pow_mul_add _ hc,
    Nat.testBit_two_pow_mul_add _ h, Nat.testBit_and, Nat.testBit_and]
  split <;> rfl
theorem X_and {m : Nat} (hm : m < 256) : ∀ l : List Nat, (∀ b ∈ l, b < 256) → X l &&& X (l.map fun _ => m) = X (l.map (· &&& m)) := by
  intro l
  induction l with
  | nil => intro _; simp [X]
  | cons b r ih =>
    intro h
    simp only [X, List.map_cons]
    rw [and_split _ _ _ _ (h b (by simp)) hm, ih fun c hc => h c (by simp [hc])]
theorem div2 (b q : Nat) : (b + 256 * q) / 2 = (b / 2 + 128 * (q % 2)) + 256 * (q / 2) := by omega
theorem div4 (b q : Nat) : (b + 256 * q) / 4 = (b / 4 + 64 * (q % 4)) + 256 * (q / 4) := by omega
theorem mask55 : ∀ b < 256, ∀ t < 2, (b / 2 + 128 * t) &&& 85 = (b / 2) &&& 85 := by decide +kernel
theorem mask33 : ∀ b < 256, ∀ t < 4, (b / 4 + 64 * t) &&& 51 = (b / 4) &&& 51 := by decide +kernel
theorem X_and2 : ∀ l : List Nat, (∀ b ∈ l, b < 256) → X l / 2 &&& X (l.map fun _ => 85) = X (l.map fun b => (b / 2) &&& 85) := by
  intro l
  induction l with
  | nil => intro _; rfl
  | cons b r ih =>
    intro h
    have hb := h b (by simp)
    simp only [X, List.map_cons]
    rw [div2, and_split _ _ _ _ (by omega) (by omega), ih fun c hc => h c (by simp [hc]), mask55 b hb _ (by omega)]
theorem X_and4 : ∀ l : List Nat, (∀ b ∈ l, b < 256) → X l / 4 &&& X (l.map fun _ => 51) = X (l.map fun b => (b / 4) &&& 51) := by
  intro l
  induction l with
  | nil => intro _; rfl
  | cons b r ih =>
    intro h
    have hb := h b (by simp)
    simp only [X, List.map_cons]
    rw [div4, and_split _ _ _ _ (by omega) (by omega), ih fun c hc => h c (by simp [hc]), mask33 b hb _ (by omega)]
theorem X_add (f g : Nat → Nat) : ∀ l : List Nat, X (l.map f) + X (l.map g) = X (l.map fun b => f b + g b) := by
  intro l
  induction l with
  | nil => rfl
  | cons b r ih => simp only [X, List.map_cons]; omega
def small (y : Nat) : Prop := y % 16 ≤ 4 ∧ y / 16 ≤ 4
theorem X_mod16 : ∀ l : List Nat, (∀ b ∈ l, small b) → X l % 16 ≤ 4 := by
  intro l h
  cases l with
  | nil => simp [X]
  | cons b r => have := (h b (by simp)).1; simp only [X]; omega
theorem X_and16 : ∀ l : List Nat, (∀ b ∈ l, small b) → (X l / 16 + X l) &&& X (l.map fun _ => 15) = X (l.map fun b => b / 16 + b % 16) := by
  intro l
  induction l with
  | nil => intro _; rfl
  | cons b r ih =>
    intro h
    have hb := h b (by simp)
    have hr := X_mod16 r fun c hc => h c (by simp [hc])
    have e : (b + 256 * X r) / 16 + (b + 256 * X r) = (b / 16 + 16 * (X r % 16) + b) + 256 * (X r / 16 + X r) := by omega
    simp only [X, List.map_cons]
    obtain ⟨h1, h2⟩ := hb
    rw [e, and_split _ _ _ _ (by omega) (by omega), ih fun c hc => h c (by simp [hc]), show 15 = 2 ^ 4 - 1 from rfl, Nat.and_two_pow_sub_one_eq_mod]
    congr 1
    omega
def y1 (b : Nat) : Nat := ((b / 2) &&& 85) + (b &&& 85)
def y2 (y : Nat) : Nat := ((y / 4) &&& 51) + (y &&& 51)
def bits8 (b : Nat) : Nat := (b.testBit 0).toNat + (b.testBit 1).toNat + (b.testBit 2).toNat + (b.testBit 3).toNat + (b.testBit 4).toNat + (b.testBit 5).toNat + (b.testBit 6).toNat + (b.testBit 7).toNat
theorem y1_lt : ∀ b < 256, y1 b < 256 := by decide +kernel
theorem y2_small : ∀ b < 256, y2 (y1 b) % 16 ≤ 4 ∧ y2 (y1 b) / 16 ≤ 4 := by decide +kernel
theorem y3_bits : ∀ b < 256, y2 (y1 b) / 16 + y2 (y1 b) % 16 = bits8 b := by decide +kernel
theorem bits8_le : ∀ b < 256, bits8 b ≤ 8 := by decide +kernel

def step1 (x : Nat) : Nat := (x / 2 &&& 6148914691236517205) + (x &&& 6148914691236517205)
def step2 (x : Nat) : Nat := (x / 4 &&& 3689348814741910323) + (x &&& 3689348814741910323)
def step3 (x : Nat) : Nat := (x / 16 + x) &&& 1085102592571150095
theorem st1 (l : List Nat) (hl : l.length = 8) (h : ∀ b ∈ l, b < 256) : step1 (X l) = X (l.map y1) := by
  have e : X (l.map fun _ => 85) = 6148914691236517205 := by
    match l, hl with
    | [_, _, _, _, _, _, _, _], _ => exact (by decide +kernel : X [85, 85, 85, 85, 85, 85, 85, 85] = 6148914691236517205)
  rw [step1, ← e, X_and2 l h, X_and (by omega) l h, X_add]; rfl
theorem st2 (l : List Nat) (hl : l.length = 8) (h : ∀ b ∈ l, b < 256) : step2 (X l) = X (l.map y2) := by
  have e : X (l.map fun _ => 51) = 3689348814741910323 := by
    match l, hl with
    | [_, _, _, _, _, _, _, _], _ => exact (by decide +kernel : X [51, 51, 51, 51, 51, 51, 51, 51] = 3689348814741910323)
  rw [step2, ← e, X_and4 l h, X_and (by omega) l h, X_add]; rfl
theorem st3 (l : List Nat) (hl : l.length = 8) (h : ∀ b ∈ l, small b) : step3 (X l) = X (l.map fun b => b / 16 + b % 16) := by
  have e : X (l.map fun _ => 15) = 1085102592571150095 := by
    match l, hl with
    | [_, _, _, _, _, _, _, _], _ => exact (by decide +kernel : X [15, 15, 15, 15, 15, 15, 15, 15] = 1085102592571150095)
  rw [step3, ← e, X_and16 l h]
theorem steps123 (l : List Nat) (hl : l.length = 8) (h : ∀ b ∈ l, b < 256) : step3 (step2 (step1 (X l))) = X (l.map bits8) := by
  rw [st1 l hl h, st2 (l.map y1) (by simpa using hl) (fun b hb => by
      obtain ⟨c, hc, rfl⟩ := List.mem_map.1 hb; exact y1_lt c (h c hc)),
    List.map_map, st3 (l.map (y2 ∘ y1)) (by simpa using hl) (fun b hb => by
      obtain ⟨c, hc, rfl⟩ := List.mem_map.1 hb; exact y2_small c (h c hc)), List.map_map]
  congr 1
  apply List.map_congr_left
  intro b hb
  exact y3_bits b (h b hb)
theorem last (z0 z1 z2 z3 z4 z5 z6 z7 : Nat) (h0 : z0 ≤ 8) (h1 : z1 ≤ 8) (h2 : z2 ≤ 8) (h3 : z3 ≤ 8) (h4 : z4 ≤ 8) (h5 : z5 ≤ 8) (h6 : z6 ≤ 8) (h7 : z7 ≤ 8) (x a b c : Nat)
    (hx : x = X [z0, z1, z2, z3, z4, z5, z6, z7]) (ha : a = x + x / 256) (hb : b = a + a / 65536) (hc : c = b + b / 4294967296) :
    c % 128 = z0 + z1 + z2 + z3 + z4 + z5 + z6 + z7 ∧ c < 9223372036854775808 := by
  simp only [X] at hx
  have ha' : a = (z0 + z1) + 256 * ((z1 + z2) + 256 * ((z2 + z3) + 256 * ((z3 + z4) + 256 * ((z4 + z5) + 256 * ((z5 + z6) + 256 * ((z6 + z7) + 256 * z7)))))) := by omega
  clear ha hx x
  have hb' : b = (z0 + z1 + z2 + z3) + 256 * ((z1 + z2 + z3 + z4) + 256 * ((z2 + z3 + z4 + z5) + 256 * ((z3 + z4 + z5 + z6) + 256 * ((z4 + z5 + z6 + z7) + 256 * ((z5 + z6 + z7) + 256 * ((z6 + z7) + 256 * z7)))))) := by omega
  clear hb ha' a
  have hc' : c = (z0 + z1 + z2 + z3 + z4 + z5 + z6 + z7) + 256 * ((z1 + z2 + z3 + z4 + z5 + z6 + z7) + 256 * ((z2 + z3 + z4 + z5 + z6 + z7) + 256 * ((z3 + z4 + z5 + z6 + z7) + 256 * ((z4 + z5 + z6 + z7) + 256 * ((z5 + z6 + z7) + 256 * ((z6 + z7) + 256 * z7)))))) := by omega
  clear hc hb' b
  omega

def cntN (x : B) : Nat → Nat
  | 0 => 0
  | k + 1 => cntN x k + (x.getLsbD k).toNat
def cnt (x : B) : Nat := cntN x 64
theorem cntN_part (m b : B) : ∀ k, k ≤ 64 → cntN (m &&& ~~~ b) k + cntN (m &&& b) k = cntN m k := by
  intro k
  induction k with
  | zero => intro _; rfl
  | succ k ih =>
    intro hk
    have := ih (by omega)
    have h : (m &&& ~~~ b).getLsbD k = (m.getLsbD k && !b.getLsbD k) := by
      rw [BitVec.getLsbD_and, BitVec.getLsbD_not, decide_eq_true (show k < 64 by omega), Bool.true_and]
    simp only [cntN]
    rw [h, BitVec.getLsbD_and]
    cases m.getLsbD k <;> cases b.getLsbD k <;> simp <;> omega
theorem cnt_part (m b : B) : cnt (m &&& ~~~ b) + cnt (m &&& b) = cnt m := cntN_part m b 64 (by omega)
theorem cntN_le (x : B) : ∀ k, cntN x k ≤ k := by
  intro k
  induction k with
  | zero => exact Nat.le_refl _
  | succ k ih => simp only [cntN]; have : (x.getLsbD k).toNat ≤ 1 := Bool.toNat_le _; omega
theorem cnt_le (x : B) : cnt x ≤ 64 := cntN_le x 64
def byt (x : Nat) (j : Nat) : Nat := x / 256 ^ j % 256
theorem byt_bit (x : B) (j i : Nat) (hi : i < 8) : (byt x.toNat j).testBit i = x.getLsbD (8 * j + i) := by
  rw [byt, show 256 = 2 ^ 8 from rfl, Nat.testBit_mod_two_pow, ← Nat.pow_mul, Nat.testBit_div_two_pow, BitVec.getLsbD]
  simp only [hi, decide_true, Bool.true_and, Nat.add_comm]
theorem X_bytes (n : Nat) (h : n < 18446744073709551616) : n = X [byt n 0, byt n 1, byt n 2, byt n 3, byt n 4, byt n 5, byt n 6, byt n 7] := by
  simp only [X, byt]
  omega
theorem cnt_bytes (x : B) : cnt x = bits8 (byt x.toNat 0) + bits8 (byt x.toNat 1) + bits8 (byt x.toNat 2) + bits8 (byt x.toNat 3) + bits8 (byt x.toNat 4) + bits8 (byt x.toNat 5) + bits8 (byt x.toNat 6) + bits8 (byt x.toNat 7) := by
  have h : ∀ j, bits8 (byt x.toNat j) = (x.getLsbD (8 * j)).toNat + (x.getLsbD (8 * j + 1)).toNat + (x.getLsbD (8 * j + 2)).toNat + (x.getLsbD (8 * j + 3)).toNat + (x.getLsbD (8 * j + 4)).toNat + (x.getLsbD (8 * j + 5)).toNat + (x.getLsbD (8 * j + 6)).toNat + (x.getLsbD (8 * j + 7)).toNat := by
    intro j
    simp only [bits8]
    rw [byt_bit x j 0 (by omega), byt_bit x j 1 (by omega), byt_bit x j 2 (by omega), byt_bit x j 3 (by omega), byt_bit x j 4 (by omega), byt_bit x j 5 (by omega), byt_bit x j 6 (by omega), byt_bit x j 7 (by omega)]
    rfl
  rw [h, h, h, h, h, h, h, h]
  simp only [cnt, cntN, Nat.reduceMul, Nat.reduceAdd, Nat.zero_add]
  omega
theorem byt_lt (n j : Nat) : byt n j < 256 := Nat.mod_lt _ (by omega)
theorem pop_count (x : B) (y a b c : Nat) (hy : y = step3 (step2 (step1 x.toNat))) (ha : a = y + y / 256) (hb : b = a + a / 65536) (hc : c = b + b / 4294967296) :
    c % 128 = cnt x ∧ c < 9223372036854775808 ∧ y < 9223372036854775808 := by
  have h0 := X_bytes x.toNat x.isLt
  rw [h0, steps123 _ rfl (by intro b hb; simp only [List.mem_cons, List.not_mem_nil, or_false] at hb; rcases hb with rfl | rfl | rfl | rfl | rfl | rfl | rfl | rfl <;> exact byt_lt _ _)] at hy
  simp only [List.map_cons, List.map_nil] at hy
  have h := last _ _ _ _ _ _ _ _ (bits8_le _ (byt_lt _ _)) (bits8_le _ (byt_lt _ _)) (bits8_le _ (byt_lt _ _)) (bits8_le _ (byt_lt _ _)) (bits8_le _ (byt_lt _ _)) (bits8_le _ (byt_lt _ _)) (bits8_le _ (byt_lt _ _)) (bits8_le _ (byt_lt _ _)) y a b c hy ha hb hc
  rw [cnt_bytes]
  exact ⟨h.1, h.2, by omega⟩
theorem shrN (n k : Nat) (hk : k < 64) : shrI .u64 (n : Int) (k : Int) = ((n / 2 ^ k : Nat) : Int) := by
  simp only [shrI]
  have : min (k : Int).toNat (IntKind.bits .u64) = k := by simp [IntKind.bits]; omega
  rw [this, Int.fdiv_eq_ediv_of_nonneg _ (Int.le_of_lt (Int.pow_pos (by decide)))]
  simp
theorem andN (n m : Nat) (hn : n < 18446744073709551616) (hm : m < 18446744073709551616) : andI .u64 (n : Int) (m : Int) = ((n &&& m : Nat) : Int) := by
  rw [andI_u]
  unfold iv
  rw [BitVec.toNat_and]
  have h : ∀ x : Nat, x < 18446744073709551616 → (bv (x : Int)).toNat = x := fun x hx => by
    simp only [bv, BitVec.ofInt_natCast, BitVec.toNat_ofNat]
    exact Nat.mod_eq_of_lt hx
  rw [h n hn, h m hm]
theorem wrapN (n : Nat) (hn : n < 18446744073709551616) : IntKind.u64.wrap (n : Int) = (n : Int) := wrap_u64 ⟨by omega, by omega⟩
theorem and127 (c : Nat) (hc : c < 9223372036854775808) : andI .i64 (c : Int) 127 = ((c % 128 : Nat) : Int) := by
  have h : ∀ x : Nat, x < 9223372036854775808 → (BitVec.ofInt (IntKind.bits .i64) (x : Int)).toNat = x := fun x hx => by
    show (BitVec.ofInt 64 (x : Int)).toNat = x
    simp only [BitVec.ofInt_natCast, BitVec.toNat_ofNat]
    exact Nat.mod_eq_of_lt (by omega)
  unfold andI
  rw [BitVec.toNat_and, h c hc]
  have h127 : (BitVec.ofInt (IntKind.bits .i64) 127).toNat = 127 := by decide
  rw [h127, show 127 = 2 ^ 7 - 1 from rfl, Nat.and_two_pow_sub_one_eq_mod]
  exact wrap_i64 ⟨by omega, by omega⟩
theorem ivN (x : B) : iv x = (x.toNat : Int) := rfl
theorem step1_lt (n : Nat) : step1 n ≤ 12297829382473034410 := by
  have h1 : n / 2 &&& 6148914691236517205 ≤ 6148914691236517205 := Nat.and_le_right
  have h2 : n &&& 6148914691236517205 ≤ 6148914691236517205 := Nat.and_le_right
  unfold step1; omega
theorem step2_lt (n : Nat) : step2 n ≤ 7378697629483820646 := by
  have h1 : n / 4 &&& 3689348814741910323 ≤ 3689348814741910323 := Nat.and_le_right
  have h2 : n &&& 3689348814741910323 ≤ 3689348814741910323 := Nat.and_le_right
  unfold step2; omega
theorem step3_lt (n : Nat) : step3 n ≤ 1085102592571150095 := Nat.and_le_right
theorem stA (n : Nat) (hn : n < 18446744073709551616) : IntKind.u64.wrap (andI .u64 (shrI .u64 (n : Int) 1) 6148914691236517205 + andI .u64 (n : Int) 6148914691236517205) = (step1 n : Int) := by
  have h1 := shrN n 1 (by omega)
  have h2 := andN (n / 2 ^ 1) 6148914691236517205 (by omega) (by omega)
  have h3 := andN n 6148914691236517205 (by omega) (by omega)
  simp only [Int.cast_ofNat_Int] at h1 h2 h3
  rw [h1, h2, h3, ← Int.natCast_add]
  exact wrapN _ (Nat.lt_of_le_of_lt (step1_lt n) (by omega))
theorem stB (n : Nat) (hn : n < 18446744073709551616) : IntKind.u64.wrap (andI .u64 (shrI .u64 (n : Int) 2) 3689348814741910323 + andI .u64 (n : Int) 3689348814741910323) = (step2 n : Int) := by
  have h1 := shrN n 2 (by omega)
  have h2 := andN (n / 2 ^ 2) 3689348814741910323 (by omega) (by omega)
  have h3 := andN n 3689348814741910323 (by omega) (by omega)
  simp only [Int.cast_ofNat_Int] at h1 h2 h3
  rw [h1, h2, h3, ← Int.natCast_add]
  exact wrapN _ (Nat.lt_of_le_of_lt (step2_lt n) (by omega))
theorem stC (n : Nat) (hn : n ≤ 7378697629483820646) : andI .u64 (IntKind.u64.wrap (shrI .u64 (n : Int) 4 + (n : Int))) 1085102592571150095 = (step3 n : Int) := by
  have h1 := shrN n 4 (by omega)
  have h2 := andN (n / 2 ^ 4 + n) 1085102592571150095 (by omega) (by omega)
  simp only [Int.cast_ofNat_Int] at h1 h2
  rw [h1, ← Int.natCast_add, wrapN _ (by omega), h2]; rfl
theorem stD (n k m : Nat) (hk : k < 64) (hm : m = n + n / 2 ^ k) (h : m < 9223372036854775808) : IntKind.u64.wrap ((n : Int) + shrI .u64 (n : Int) (k : Int)) = (m : Int) := by
  rw [shrN n k hk, ← Int.natCast_add, hm]
  exact wrapN _ (by omega)
theorem onesCount (x : B) (y a b c : Nat) (hy : y = step3 (step2 (step1 x.toNat))) (ha : a = y + y / 256) (hb : b = a + a / 65536) (hc : c = b + b / 4294967296) :
    andI .i64 (IntKind.i64.wrap (c : Int)) 127 = (cnt x : Int) := by
  obtain ⟨h1, h2, h3⟩ := pop_count x y a b c hy ha hb hc
  rw [wrap_i64 ⟨by omega, by omega⟩, and127 c h2, h1]

def pcJ (s : Int) : Int :=
  let s1 := IntKind.u64.wrap (andI .u64 (shrI .u64 s 1) 6148914691236517205 + andI .u64 s 6148914691236517205)
  let s2 := IntKind.u64.wrap (andI .u64 (shrI .u64 s1 2) 3689348814741910323 + andI .u64 s1 3689348814741910323)
  let s3 := andI .u64 (IntKind.u64.wrap (shrI .u64 s2 4 + s2)) 1085102592571150095
  let s4 := IntKind.u64.wrap (s3 + shrI .u64 s3 8)
  let s5 := IntKind.u64.wrap (s4 + shrI .u64 s4 16)
  let s6 := IntKind.u64.wrap (s5 + shrI .u64 s5 32)
  andI .i64 (IntKind.i64.wrap s6) 127
theorem pcJ_cnt (x : B) : pcJ (iv x) = (cnt x : Int) := by
  obtain ⟨y, hy⟩ : ∃ y, y = step3 (step2 (step1 x.toNat)) := ⟨_, rfl⟩
  obtain ⟨a, ha⟩ : ∃ a, a = y + y / 256 := ⟨_, rfl⟩
  obtain ⟨b, hb⟩ : ∃ b, b = a + a / 65536 := ⟨_, rfl⟩
  obtain ⟨c, hc⟩ : ∃ c, c = b + b / 4294967296 := ⟨_, rfl⟩
  obtain ⟨h1, h2, h3⟩ := pop_count x y a b c hy ha hb hc
  have hx := x.isLt
  have e1 := stD y 8 a (by omega) (by rw [ha]) (by omega)
  have e2 := stD a 16 b (by omega) (by rw [hb]) (by omega)
  have e3 := stD b 32 c (by omega) (by rw [hc]) (by omega)
  simp only [Int.cast_ofNat_Int] at e1 e2 e3
  have f1 := step1_lt x.toNat
  have f2 := step2_lt (step1 x.toNat)
  have hw : IntKind.u64.wrap (step2 (step1 x.toNat) : Int) = (step2 (step1 x.toNat) : Int) := wrapN _ (by omega)
  unfold pcJ
  dsimp only
  rw [ivN, stA x.toNat (by omega), stB _ (by omega), stC _ f2, ← hy, e1, e2, e3, onesCount x y a b c hy ha hb hc]
theorem cntN_lsN (x : B) : ∀ k, k ≤ 64 → cntN x k = (lsN x k).length
  | 0, _ => rfl
  | k + 1, h => by
    have hh : has x ((k : Int) + 1) = x.getLsbD k := by
      unfold has
      rw [obj_t (by omega) (by omega), Bool.true_and, show ((k : Int) + 1 - 1).toNat = k by omega]
    rw [cntN, cntN_lsN x k (by omega), lsN, hh]
    cases x.getLsbD k <;> simp
theorem cnt_ls (x : B) : cnt x = (lsL x).length := cntN_lsN x 64 (Nat.le_refl _)
end Pop
theorem pc_ls (x : B) : Pop.pcJ (iv x) = ((lsL x).length : Int) := by rw [Pop.pcJ_cnt, Pop.cnt_ls]
theorem nodup_len : ∀ {a b : List Int}, a.Nodup → (∀ x ∈ a, x ∈ b) → a.length ≤ b.length
  | [], b, _, _ => by simp
  | x :: a, b, h, hs => by
    obtain ⟨h1, h2⟩ := List.nodup_cons.1 h
    have hx : x ∈ b := hs x (by simp)
    have := nodup_len (a := a) (b := b.erase x) h2 fun y hy => by
      have hne : y ≠ x := fun e => h1 (e ▸ hy)
      exact (List.mem_erase_of_ne hne).2 (hs y (by simp [hy]))
    rw [List.length_erase_of_mem hx] at this
    have hp := List.length_pos_of_mem hx
    simp; omega
theorem nodup_perm : ∀ {a b : List Int}, a.Nodup → (∀ x ∈ a, x ∈ b) → b.length ≤ a.length → a.Perm b
  | [], b, _, _, hl => by
    have : b = [] := List.eq_nil_of_length_eq_zero (by simpa using hl)
    rw [this]
  | x :: a, b, h, hs, hl => by
    obtain ⟨h1, h2⟩ := List.nodup_cons.1 h
    have hx : x ∈ b := hs x (by simp)
    have hp := nodup_perm (a := a) (b := b.erase x) h2 (fun y hy => by
      have hne : y ≠ x := fun e => h1 (e ▸ hy)
      exact (List.mem_erase_of_ne hne).2 (hs y (by simp [hy]))) (by
      rw [List.length_erase_of_mem hx]; simp at hl; omega)
    exact (hp.cons x).trans (List.perm_cons_erase hx).symm
theorem ls_len_le (l : List Int) : (lsL (ofL l)).length ≤ l.length := by
  have hsub : ∀ x ∈ lsL (ofL l), x ∈ l := fun x hx => by
    rw [mem_lsL, has_ofL] at hx
    simp at hx; exact hx.2
  exact nodup_len (lsL_nodup _) hsub
theorem once_iff (l : List Int) : (lsL (ofL l)).length = l.length ↔ l.Nodup ∧ ∀ x ∈ l, obj x = true := by
  constructor
  · intro h
    have hsub : ∀ x ∈ lsL (ofL l), x ∈ l := fun x hx => by
      rw [mem_lsL, has_ofL] at hx
      simp at hx; exact hx.2
    have hp := nodup_perm (lsL_nodup _) hsub (by omega)
    refine ⟨hp.nodup_iff.1 (lsL_nodup _), fun x hx => ?_⟩
    have := hp.mem_iff.2 hx
    rw [mem_lsL, has_ofL] at this
    simp at this; exact this.1
  · rintro ⟨h1, h2⟩
    have hsub : ∀ x ∈ l, x ∈ lsL (ofL l) := fun x hx => by
      rw [mem_lsL, has_ofL, h2 x hx]; simp [hx]
    have a := nodup_len h1 hsub
    have b := ls_len_le l
    omega
end Go.Nx
end
section
set_option linter.unusedVariables false
namespace Go.Nx
open Go.RowKit

theorem srt_perm (l : List Int) : (srt l).Perm l := List.mergeSort_perm _ _
theorem srt_sorted (l : List Int) : (srt l).Pairwise (· ≤ ·) := by
  have h := List.pairwise_mergeSort (le := fun x y : Int => decide (x ≤ y)) (fun a b c h1 h2 => by simp at *; omega) (fun a b => by simp; omega) l
  exact h.imp fun h => by simpa using h
theorem sorted_perm : ∀ {a b : List Int}, a.Pairwise (· ≤ ·) → b.Pairwise (· ≤ ·) → a.Perm b → a = b
  | [], b, _, _, h => (List.Perm.nil_eq h).symm ▸ rfl
  | x :: a, [], _, _, h => by have := h.length_eq; simp at this
  | x :: a, y :: b, ha, hb, h => by
    obtain ⟨ha1, ha2⟩ := List.pairwise_cons.1 ha
    obtain ⟨hb1, hb2⟩ := List.pairwise_cons.1 hb
    have hx : x = y := by
      have h1 : x ∈ y :: b := h.mem_iff.1 (by simp)
      have h2 : y ∈ x :: a := h.mem_iff.2 (by simp)
      rcases List.mem_cons.1 h1 with e | e
      · exact e
      · rcases List.mem_cons.1 h2 with e2 | e2
        · exact e2.symm
        · have := hb1 x e; have := ha1 y e2; omega
    subst hx
    rw [sorted_perm ha2 hb2 (List.Perm.cons_inv h)]
theorem srt_eq {a b : List Int} : srt a = srt b ↔ a.Perm b := by
  constructor
  · intro h
    exact ((srt_perm a).symm.trans (h ▸ List.Perm.refl _)).trans (srt_perm b)
  · intro h
    exact sorted_perm (srt_sorted a) (srt_sorted b) (((srt_perm a).trans h).trans (srt_perm b).symm)
theorem srt_of_sorted {l : List Int} (h : l.Pairwise (· ≤ ·)) : srt l = l := sorted_perm (srt_sorted l) h (srt_perm l)
theorem srt_srt (l : List Int) : srt (srt l) = srt l := srt_of_sorted (srt_sorted l)
theorem srt_count (l : List Int) (o : Int) : (srt l).count o = l.count o := (srt_perm l).count_eq o
theorem perm_count {a b : List Int} : a.Perm b ↔ ∀ o, a.count o = b.count o := List.perm_iff_count
theorem srt_mem {l : List Int} {x : Int} : x ∈ srt l ↔ x ∈ l := (srt_perm l).mem_iff
theorem srt_eq_count {a b : List Int} : srt a = srt b ↔ ∀ o, a.count o = b.count o := srt_eq.trans perm_count
def delN (o : Int) : Nat → List Int → List Int
  | _, [] => []
  | 0, l => l
  | n + 1, x :: l => if x = o then delN o n l else x :: delN o (n + 1) l
theorem delN_zero (o : Int) (l : List Int) : delN o 0 l = l := by cases l <;> rfl
theorem delN_count (o p : Int) : ∀ (n : Nat) (l : List Int), (delN o n l).count p = if p = o then l.count p - n else l.count p
  | n, [] => by cases n <;> simp [delN]
  | 0, x :: l => by simp [delN]
  | n + 1, x :: l => by
    unfold delN
    by_cases hx : x = o
    · rw [if_pos hx, delN_count o p n l]
      by_cases hp : p = o
      · subst hp; subst hx; simp
      · have : x ≠ p := fun e => hp (by rw [← e, hx])
        simp [hp, this]
    · rw [if_neg hx, List.count_cons, delN_count o p (n + 1) l, List.count_cons]
      by_cases hp : p = o
      · subst hp
        have : ¬ (x == p) = true := by simpa using hx
        simp [this]
      · simp [hp]
theorem delN_len (o : Int) : ∀ (n : Nat) (l : List Int), (delN o n l).length = l.length - min n (l.count o)
  | n, [] => by cases n <;> simp [delN]
  | 0, x :: l => by simp [delN]
  | n + 1, x :: l => by
    unfold delN
    by_cases hx : x = o
    · rw [if_pos hx, delN_len o n l]
      subst hx
      have := List.count_le_length (a := x) (l := l)
      simp <;> omega
    · rw [if_neg hx, List.length_cons, delN_len o (n + 1) l, List.count_cons]
      have h1 : ¬ (x == o) = true := by simpa using hx
      have := List.count_le_length (a := o) (l := l)
      simp [h1]; omega
def addB (b : List Int) (o n : Int) : List Int := if 0 ≤ n then srt (b ++ List.replicate (min n 1000).toNat o) else srt (delN o (-n).toNat b)
theorem addB_count (b : List Int) (o n p : Int) : (addB b o n).count p = if p = o then (if 0 ≤ n then b.count o + (min n 1000).toNat else b.count o - (-n).toNat) else b.count p := by
  unfold addB
  split
  · rw [srt_count, List.count_append, List.count_replicate]
    by_cases hp : p = o
    · subst hp; simp
    · have : ¬ (o == p) = true := by simpa using fun e => hp e.symm
      simp [hp, this]
  · rw [srt_count, delN_count]
    by_cases hp : p = o
    · subst hp; simp
    · simp [hp]
def SzB (xs : List T) : Prop := xs.length * 8 ≤ maxBytes
theorem is_nil_iff {l : List Int} : is l = [] ↔ l = [] := by simp [is]
theorem sz_lenB {l : List Int} (h : SzB (is l)) : l.length ≤ 17592186044416 := by unfold SzB maxBytes at h; rw [is_len] at h; omega
def eqNs (a b : List Int) : Bool := decide (a = b)
theorem take_nextB {l r : List Int} {k : Nat} (h : l.take k = r.take k) (hl : k < l.length) (hr : k < r.length) (e : at0 l k = at0 r k) : l.take (k + 1) = r.take (k + 1) := by
  rw [List.take_add_one, List.take_add_one, h]
  congr 1
  simp [at0, hl, hr] at e
  simp [hl, hr, e]
theorem eqNs_no {l r : List Int} {k : Nat} (hl : k < l.length) (hr : k < r.length) (e : at0 l k ≠ at0 r k) : eqNs l r = false := by
  unfold eqNs
  rw [decide_eq_false_iff_not]
  intro h; subst h; exact e rfl
theorem eqNs_self (l : List Int) : eqNs l l = true := by simp [eqNs]
theorem env_ptB {P : Program} {gl : Nat → Option (List T)} {l : List (Nat × (List T → Ans))} {il : List (Nat × Pt)} {n : Nat} {g : Pt} (h : EnvOk P (En gl l il)) (hg : ∀ base args own R, g base args own R → FnV P gl n args own R) : EnvOk P (En gl l ((n, g) :: il)) := by
  refine ⟨h.fn, h.gl, h.pk, fun f base args own R hi hR => ?_, h.pn⟩
  have hR' : ptL ((n, g) :: il) f base args own R := hR
  have hi' : isL ((n, g) :: il) f = true := hi
  simp only [ptL] at hR'
  simp only [isL] at hi'
  cases e : Nat.beq n f with
  | true =>
    rw [e] at hR'
    rw [← Nat.eq_of_beq_eq_true e]
    exact hg base args own R hR'
  | false =>
    rw [e] at hR' hi'
    exact h.pt f base args own R hi' hR'
theorem srt_I {l : List Int} (h : ∀ n ∈ l, I64 n) : ∀ n ∈ srt l, I64 n := fun n hn => h n (srt_mem.1 hn)
theorem isI_srt {l : List Int} (h : ∀ n ∈ l, I64 n) : IsI (is (srt l)) := ⟨_, rfl, srt_I h⟩
theorem sz_srt {l : List Int} (h : SzB (is l)) : SzB (is (srt l)) := by unfold SzB at h ⊢; rw [is_len] at h ⊢; rw [srt_len]; exact h
def insB (x : Int) : List Int → List Int
  | [] => [x]
  | y :: r => match decide (x ≤ y) with
    | true => x :: y :: r
    | false => y :: insB x r
def isrt : List Int → List Int
  | [] => []
  | x :: r => insB x (isrt r)
theorem insB_perm (x : Int) : ∀ l : List Int, (insB x l).Perm (x :: l)
  | [] => List.Perm.refl _
  | y :: r => by
    unfold insB
    split
    · exact List.Perm.refl _
    · exact ((insB_perm x r).cons y).trans (List.Perm.swap x y r)
theorem insB_sorted (x : Int) : ∀ l : List Int, l.Pairwise (· ≤ ·) → (insB x l).Pairwise (· ≤ ·)
  | [], _ => by simp [insB]
  | y :: r, h => by
    unfold insB
    split
    · rename_i e
      have e := of_decide_eq_true e
      obtain ⟨h1, h2⟩ := List.pairwise_cons.1 h
      refine List.pairwise_cons.2 ⟨fun z hz => ?_, h⟩
      rcases List.mem_cons.1 hz with rfl | hz
      · exact e
      · have := h1 z hz; omega
    · rename_i e
      have e := of_decide_eq_false e
      obtain ⟨h1, h2⟩ := List.pairwise_cons.1 h
      refine List.pairwise_cons.2 ⟨fun z hz => ?_, insB_sorted x r h2⟩
      rcases List.mem_cons.1 ((insB_perm x r).mem_iff.1 hz) with rfl | hz
      · omega
      · exact h1 z hz
theorem isrt_perm : ∀ l : List Int, (isrt l).Perm l
  | [] => List.Perm.refl _
  | x :: r => (insB_perm x _).trans ((isrt_perm r).cons x)
theorem isrt_sorted : ∀ l : List Int, (isrt l).Pairwise (· ≤ ·)
  | [] => List.Pairwise.nil
  | x :: r => insB_sorted x _ (isrt_sorted r)
theorem srt_isrt (l : List Int) : srt l = isrt l := sorted_perm (srt_sorted l) (isrt_sorted l) ((srt_perm l).trans (isrt_perm l).symm)
end Go.Nx
end
section
set_option linter.unusedVariables false
set_option linter.unusedSimpArgs false
set_option maxRecDepth 20000
set_option maxHeartbeats 4000000
namespace Go.Nx
open Go.RowKit Go.Proofs

theorem ok49 (xs : List T) (hq : IsI xs ∧ SzB xs) : FnOk Tryd.prog tgl 49 [.list 1 xs] (.int .u64 (iv (ofL (nums xs)))) := by
  refine fn_ok (Γ := E3) env_E3 Tryd.func49 low49 ?_
  obtain ⟨⟨l, rfl, hl⟩, hs⟩ := hq
  have hlen := sz_lenB hs
  rw [nums_is]
  conv => whnf
  repeat' (first
    | (refine brK_true rfl ?_; conv => whnf)
    | (refine brK_false rfl ?_; conv => whnf)
    | (refine brK_true (by assumption) ?_; conv => whnf)
    | (refine brK_false (by assumption) ?_; conv => whnf)
    | (refine brK_true ?_ ?_; (focus (simp only [List.length_nil, fx] <;> omega)); conv => whnf)
    | (refine brK_false ?_ ?_; (focus (simp only [List.length_nil, fx] <;> omega)); conv => whnf)
    | ((refine brK_of (fun h => ?_) (fun h => ?_)) <;> (have h2 := h; (try simp only [List.length_nil, fx] at h2); conv => whnf))
    | (refine reqK_of ?_ ?_; (focus (first | decide | omega | assumption | (simp only [List.length_nil, fx] <;> omega) | (simp [keyNew, sameKey, kEq] <;> omega))); conv => whnf)
    | (refine reqK_of ?_ ?_; rotate_left; (conv => whnf); rotate_left)
    | (refine nth_us ?_ ?_ ?_; (focus (first | omega | (simp only [List.length_nil, fx] <;> omega))); (focus (first | omega | (simp only [List.length_nil, fx] <;> omega))); conv => whnf)
    | (refine nth_is ?_ ?_ ?_; (focus (first | omega | (simp only [List.length_nil, fx] <;> omega))); (focus (first | omega | (simp only [List.length_nil, fx] <;> omega))); conv => whnf)
    | (refine nth_bs ?_ ?_ ?_; (focus (first | omega | (simp only [List.length_nil, fx] <;> omega))); (focus (first | omega | (simp only [List.length_nil, fx] <;> omega))); conv => whnf))
  refine loopUp [] [.kill 5, .kill 9, .kill 10, .kill 11, .kill 12, .kill 13, .kill 14, .kill 15] (fun k : Nat => [(3, .t (.int .u64 (iv (ofL (l.take k))))), (8, .t (.int .i64 (k : Int)))]) (fun _ => []) (fun k => k ≤ l.length) (fun k => l.length - k) 0 (Nat.zero_le _) ?_
  conv => whnf
  refine ⟨⟨rfl, rfl⟩, fun k hk C hC => ?_⟩
  have hw : IntKind.i64.wrap ((k : Int) + 1) = (k : Int) + 1 := wrap_i64 ⟨by omega, by omega⟩
  conv => whnf
  repeat' (first
    | (refine brK_true rfl ?_; conv => whnf)
    | (refine brK_false rfl ?_; conv => whnf)
    | (refine brK_true (by assumption) ?_; conv => whnf)
    | (refine brK_false (by assumption) ?_; conv => whnf)
    | (refine brK_true ?_ ?_; (focus (simp only [List.length_nil, fx] <;> omega)); conv => whnf)
    | (refine brK_false ?_ ?_; (focus (simp only [List.length_nil, fx] <;> omega)); conv => whnf)
    | ((refine brK_of (fun h => ?_) (fun h => ?_)) <;> (have h2 := h; (try simp only [List.length_nil, fx] at h2); conv => whnf))
    | (refine reqK_of ?_ ?_; (focus (first | decide | omega | assumption | (simp only [List.length_nil, fx] <;> omega) | (simp [keyNew, sameKey, kEq] <;> omega))); conv => whnf)
    | (refine reqK_of ?_ ?_; rotate_left; (conv => whnf); rotate_left)
    | (refine nth_us ?_ ?_ ?_; (focus (first | omega | (simp only [List.length_nil, fx] <;> omega))); (focus (first | omega | (simp only [List.length_nil, fx] <;> omega))); conv => whnf)
    | (refine nth_is ?_ ?_ ?_; (focus (first | omega | (simp only [List.length_nil, fx] <;> omega))); (focus (first | omega | (simp only [List.length_nil, fx] <;> omega))); conv => whnf)
    | (refine nth_bs ?_ ?_ ?_; (focus (first | omega | (simp only [List.length_nil, fx] <;> omega))); (focus (first | omega | (simp only [List.length_nil, fx] <;> omega))); conv => whnf))
  · refine loopC (hC (k + 1) (by omega) (by omega)) ?_
    rw [hw, bv_iv, ← ofL_take (by omega), Int.natCast_succ]
    rfl
  · rw [List.take_of_length_le (by omega)]
open Classical in
noncomputable def c49 : List T → Ans
  | [.list 1 xs] => .req (IsI xs ∧ SzB xs) (.int .u64 (iv (ofL (nums xs))))
  | _ => .no
theorem got49 {vs : List T} {x : T} (h : Got (c49 vs) x) : FnOk Tryd.prog tgl 49 vs x := by
  unfold c49 at h
  split at h
  · obtain ⟨hq, e⟩ := got_req h; rw [e]; exact ok49 _ hq
  · exact (got_no h).elim
theorem nogl49 (vs : List T) (p : Prop) (d : Decidable p) (sz : Nat) (xs : List T) (h : c49 vs = @Ans.gl p d sz xs) : False := by
  unfold c49 at h
  split at h <;> cases h
theorem pk49 (vs : List T) (p : Prop) (d : Decidable p) (x : T) (h : c49 vs = @Ans.pk p d x) (hp : p) : FnOk Tryd.prog tgl 49 vs x := by
  unfold c49 at h
  split at h
  · cases h
  · cases h
theorem ok79 (s : Int) : FnOk Tryd.prog tgl 79 [.int .u64 s] (.int .i64 (Pop.pcJ s)) := by
  refine fn_ok (Γ := E3) env_E3 Tryd.func79 low79 ?_
  conv => whnf
  repeat' (first
    | (refine brK_true rfl ?_; conv => whnf)
    | (refine brK_false rfl ?_; conv => whnf)
    | (refine brK_true (by assumption) ?_; conv => whnf)
    | (refine brK_false (by assumption) ?_; conv => whnf)
    | (refine brK_true ?_ ?_; (focus (simp only [List.length_nil, fx] <;> omega)); conv => whnf)
    | (refine brK_false ?_ ?_; (focus (simp only [List.length_nil, fx] <;> omega)); conv => whnf)
    | ((refine brK_of (fun h => ?_) (fun h => ?_)) <;> (have h2 := h; (try simp only [List.length_nil, fx] at h2); conv => whnf))
    | (refine reqK_of ?_ ?_; (focus (first | decide | omega | assumption | (simp only [List.length_nil, fx] <;> omega) | (simp [keyNew, sameKey, kEq] <;> omega))); conv => whnf)
    | (refine reqK_of ?_ ?_; rotate_left; (conv => whnf); rotate_left)
    | (refine nth_us ?_ ?_ ?_; (focus (first | omega | (simp only [List.length_nil, fx] <;> omega))); (focus (first | omega | (simp only [List.length_nil, fx] <;> omega))); conv => whnf)
    | (refine nth_is ?_ ?_ ?_; (focus (first | omega | (simp only [List.length_nil, fx] <;> omega))); (focus (first | omega | (simp only [List.length_nil, fx] <;> omega))); conv => whnf)
    | (refine nth_bs ?_ ?_ ?_; (focus (first | omega | (simp only [List.length_nil, fx] <;> omega))); (focus (first | omega | (simp only [List.length_nil, fx] <;> omega))); conv => whnf))
  rfl
open Classical in
noncomputable def c79 : List T → Ans
  | [.int .u64 s] => .yes (.int .i64 (Pop.pcJ s))
  | _ => .no
theorem got79 {vs : List T} {x : T} (h : Got (c79 vs) x) : FnOk Tryd.prog tgl 79 vs x := by
  unfold c79 at h
  split at h
  · rw [got_yes h]; exact ok79 _
  · exact (got_no h).elim
theorem nogl79 (vs : List T) (p : Prop) (d : Decidable p) (sz : Nat) (xs : List T) (h : c79 vs = @Ans.gl p d sz xs) : False := by
  unfold c79 at h
  split at h <;> cases h
theorem pk79 (vs : List T) (p : Prop) (d : Decidable p) (x : T) (h : c79 vs = @Ans.pk p d x) (hp : p) : FnOk Tryd.prog tgl 79 vs x := by
  unfold c79 at h
  split at h
  · cases h
  · cases h
noncomputable def lW1 : List (Nat × (List T → Ans)) := (49, c49) :: (79, c79) :: lE3
noncomputable def iW1 : List (Nat × Pt) := iE3
noncomputable abbrev W1 : Env := En tgl lW1 iW1
theorem env_W1 : EnvOk Tryd.prog W1 := (env_fn (env_fn env_E3 (fun _ _ => got79) (fun vs p d sz xs h _ => (nogl79 vs p d sz xs h).elim) pk79) (fun _ _ => got49) (fun vs p d sz xs h _ => (nogl49 vs p d sz xs h).elim) pk49)
theorem ok50 (s : Int) (hq : R64 s) : FnOk Tryd.prog tgl 50 [.int .u64 s] (.int .i64 ((lsL (bv s)).length : Nat)) := by
  refine fn_ok (Γ := W1) env_W1 Tryd.func50 low50 ?_
  conv => whnf
  repeat' (first
    | (refine brK_true rfl ?_; conv => whnf)
    | (refine brK_false rfl ?_; conv => whnf)
    | (refine brK_true (by assumption) ?_; conv => whnf)
    | (refine brK_false (by assumption) ?_; conv => whnf)
    | (refine brK_true ?_ ?_; (focus (simp only [List.length_nil, fx] <;> omega)); conv => whnf)
    | (refine brK_false ?_ ?_; (focus (simp only [List.length_nil, fx] <;> omega)); conv => whnf)
    | ((refine brK_of (fun h => ?_) (fun h => ?_)) <;> (have h2 := h; (try simp only [List.length_nil, fx] at h2); conv => whnf))
    | (refine reqK_of ?_ ?_; (focus (first | decide | omega | assumption | (simp only [List.length_nil, fx] <;> omega) | (simp [keyNew, sameKey, kEq] <;> omega))); conv => whnf)
    | (refine reqK_of ?_ ?_; rotate_left; (conv => whnf); rotate_left)
    | (refine nth_us ?_ ?_ ?_; (focus (first | omega | (simp only [List.length_nil, fx] <;> omega))); (focus (first | omega | (simp only [List.length_nil, fx] <;> omega))); conv => whnf)
    | (refine nth_is ?_ ?_ ?_; (focus (first | omega | (simp only [List.length_nil, fx] <;> omega))); (focus (first | omega | (simp only [List.length_nil, fx] <;> omega))); conv => whnf)
    | (refine nth_bs ?_ ?_ ?_; (focus (first | omega | (simp only [List.length_nil, fx] <;> omega))); (focus (first | omega | (simp only [List.length_nil, fx] <;> omega))); conv => whnf))
  have := pc_ls (bv s)
  rw [iv_bv hq] at this
  rw [this]
open Classical in
noncomputable def c50 : List T → Ans
  | [.int .u64 s] => .req (R64 s) (.int .i64 ((lsL (bv s)).length : Nat))
  | _ => .no
theorem got50 {vs : List T} {x : T} (h : Got (c50 vs) x) : FnOk Tryd.prog tgl 50 vs x := by
  unfold c50 at h
  split at h
  · obtain ⟨hq, e⟩ := got_req h; rw [e]; exact ok50 _ hq
  · exact (got_no h).elim
theorem nogl50 (vs : List T) (p : Prop) (d : Decidable p) (sz : Nat) (xs : List T) (h : c50 vs = @Ans.gl p d sz xs) : False := by
  unfold c50 at h
  split at h <;> cases h
theorem pk50 (vs : List T) (p : Prop) (d : Decidable p) (x : T) (h : c50 vs = @Ans.pk p d x) (hp : p) : FnOk Tryd.prog tgl 50 vs x := by
  unfold c50 at h
  split at h
  · cases h
  · cases h
noncomputable def lW2 : List (Nat × (List T → Ans)) := (50, c50) :: lW1
noncomputable def iW2 : List (Nat × Pt) := iW1
noncomputable abbrev W2 : Env := En tgl lW2 iW2
theorem env_W2 : EnvOk Tryd.prog W2 := (env_fn env_W1 (fun _ _ => got50) (fun vs p d sz xs h _ => (nogl50 vs p d sz xs h).elim) pk50)
def onceS (l : List Int) : Int × Bool := if (lsL (ofL l)).length = l.length then (iv (ofL l), true) else (0, false)
theorem ok14 (xs : List T) (hq : IsI xs ∧ SzB xs) : FnOk Tryd.prog tgl 14 [.list 1 xs] (.tup [.int .u64 (onceS (nums xs)).1, .bool (onceS (nums xs)).2]) := by
  refine fn_ok (Γ := W2) env_W2 Tryd.func14 low14 ?_
  have hq' := hq
  obtain ⟨⟨l, rfl, hl⟩, hs⟩ := hq
  have hR := R_iv (ofL l)
  rw [nums_is]
  unfold onceS
  conv => whnf
  repeat' (first
    | (refine brK_true rfl ?_; conv => whnf)
    | (refine brK_false rfl ?_; conv => whnf)
    | (refine brK_true (by assumption) ?_; conv => whnf)
    | (refine brK_false (by assumption) ?_; conv => whnf)
    | (refine brK_true ?_ ?_; (focus (simp only [List.length_nil, fx, nums_is, is_len, bv_iv] <;> omega)); conv => whnf)
    | (refine brK_false ?_ ?_; (focus (simp only [List.length_nil, fx, nums_is, is_len, bv_iv] <;> omega)); conv => whnf)
    | ((refine brK_of (fun h => ?_) (fun h => ?_)) <;> (have h2 := h; (try simp only [List.length_nil, fx, nums_is, is_len, bv_iv] at h2); conv => whnf))
    | (refine reqK_of ?_ ?_; (focus (first | decide | omega | assumption | (simp only [List.length_nil, fx, nums_is, is_len, bv_iv] <;> omega) | (simp [keyNew, sameKey, kEq] <;> omega))); conv => whnf)
    | (refine reqK_of ?_ ?_; rotate_left; (conv => whnf); rotate_left)
    | (refine nth_us ?_ ?_ ?_; (focus (first | omega | (simp only [List.length_nil, fx, nums_is, is_len, bv_iv] <;> omega))); (focus (first | omega | (simp only [List.length_nil, fx, nums_is, is_len, bv_iv] <;> omega))); conv => whnf)
    | (refine nth_is ?_ ?_ ?_; (focus (first | omega | (simp only [List.length_nil, fx, nums_is, is_len, bv_iv] <;> omega))); (focus (first | omega | (simp only [List.length_nil, fx, nums_is, is_len, bv_iv] <;> omega))); conv => whnf)
    | (refine nth_bs ?_ ?_ ?_; (focus (first | omega | (simp only [List.length_nil, fx, nums_is, is_len, bv_iv] <;> omega))); (focus (first | omega | (simp only [List.length_nil, fx, nums_is, is_len, bv_iv] <;> omega))); conv => whnf))
  · rw [if_neg (by omega)]
  · rw [if_pos (by omega), nums_is]
open Classical in
noncomputable def c14 : List T → Ans
  | [.list 1 xs] => .req (IsI xs ∧ SzB xs) (.tup [.int .u64 (onceS (nums xs)).1, .bool (onceS (nums xs)).2])
  | _ => .no
theorem got14 {vs : List T} {x : T} (h : Got (c14 vs) x) : FnOk Tryd.prog tgl 14 vs x := by
  unfold c14 at h
  split at h
  · obtain ⟨hq, e⟩ := got_req h; rw [e]; exact ok14 _ hq
  · exact (got_no h).elim
theorem nogl14 (vs : List T) (p : Prop) (d : Decidable p) (sz : Nat) (xs : List T) (h : c14 vs = @Ans.gl p d sz xs) : False := by
  unfold c14 at h
  split at h <;> cases h
theorem pk14 (vs : List T) (p : Prop) (d : Decidable p) (x : T) (h : c14 vs = @Ans.pk p d x) (hp : p) : FnOk Tryd.prog tgl 14 vs x := by
  unfold c14 at h
  split at h
  · cases h
  · cases h
end Go.Nx
end
