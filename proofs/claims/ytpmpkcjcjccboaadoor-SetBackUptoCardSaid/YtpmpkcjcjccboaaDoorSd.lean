/-
  WHAT set.Text ANSWERS: straight from the model.
-/
import Derived.Test.YtpmpkcjcjccboaaDoorSc
import Derived.Test.YtpmpkcjcjccboaaDoorSs
import Derived.RangeFuncCalls
import Derived.Shelf.RegionOpen
set_option linter.unusedVariables false
set_option linter.unusedSimpArgs false
namespace Go.Nx
open Go Go.RowKit Go.Shelf Go.Proofs

attribute [local go_sem] Oper.semAt_some

def dig (o : Int) : ByteArray := ⟨(Lib.decDigits o.toNat).toArray⟩
def txt (s : B) : ByteArray := match lsL s with
  | [] => ⟨#[45]⟩
  | l => ⟨(Lib.join (l.map fun o => (dig o).data.toList) [44]).toArray⟩
theorem txt_nil {s : B} (h : lsL s = []) : txt s = ⟨#[45]⟩ := by unfold txt; rw [h]
theorem txt_cons {s : B} (h : lsL s ≠ []) : txt s = ⟨(Lib.join ((lsL s).map fun o => (dig o).data.toList) [44]).toArray⟩ := by
  unfold txt
  split
  · rename_i e; exact (h e).elim
  · rfl
theorem cell_taken {W : World} {g : Nat} {cur : Array Value} {t : TypeId} {l : List Int} (hg : W.heap[g]? = some (.cells cur t (0, 0))) (ht : List.take (l.length * 1) cur.toList = l.map fun o => Value.string (dig o)) {j : Nat} {y : ByteArray} (hj : (l.map dig)[j]? = some y) :
    W.cell? ⟨g, 0 + j, none⟩ = some (.string y) := by
  have h1 : j < l.length := by have := (List.getElem?_eq_some_iff.1 hj).1; simpa using this
  have h2 : (List.take (l.length * 1) cur.toList)[j]? = some (.string y) := by
    rw [ht, List.getElem?_map]
    rw [List.getElem?_map] at hj
    cases h : l[j]? with
    | none => rw [h] at hj; cases hj
    | some o => rw [h] at hj; simp at hj; subst hj; rfl
  rw [List.getElem?_take, if_pos (by omega)] at h2
  simp [World.cell?, hg]
  simpa using h2
theorem join_le : ∀ (l : List (List UInt8)) (m : Nat), (∀ x ∈ l, x.length ≤ m) → (Lib.join l [44]).length ≤ l.length * (m + 1)
  | [], m, _ => by simp [Lib.join]
  | [x], m, h => by have := h x (by simp); simp [Lib.join]; omega
  | x :: y :: r, m, h => by
    have h1 := join_le (y :: r) m fun z hz => h z (by simp [hz])
    have h2 := h x (by simp)
    simp [Lib.join] at h1 ⊢
    rw [Nat.succ_mul]
    omega
theorem dig_len {o : Int} (h : 1 ≤ o ∧ o ≤ 64) : (dig o).data.toList.length ≤ 2 := by
  obtain ⟨k, rfl⟩ : ∃ k : Nat, o = k := ⟨o.toNat, by omega⟩
  have : ∀ k : Nat, k < 65 → (dig (k : Int)).data.toList.length ≤ 2 := by decide +kernel
  exact this k (by omega)
theorem txt_len (s : B) : (Lib.join (((lsL s).map dig).map (·.data.toList)) (⟨#[44]⟩ : ByteArray).data.toList).length ≤ 140737488355328 := by
  have h := join_le (((lsL s).map dig).map (·.data.toList)) 2 fun x hx => by
    simp only [List.map_map, List.mem_map] at hx
    obtain ⟨o, ho, rfl⟩ := hx
    exact dig_len (has_range (mem_lsL.1 ho))
  have h2 := lsL_len s
  simp only [List.length_map] at h
  have e : (⟨#[44]⟩ : ByteArray).data.toList = [44] := rfl
  rw [e]; omega
theorem stepIn_append {F : Fence} {n : Nat} {P : Program} (w : World) {ops : Array Oper} {o : Oper} {a : Act} {K : Act → World → Prop} {Q : Exit → Act → World → Prop} {E : Prop}
    (hg : o.guard = none) (s x : Operand) (t : TypeId) (hop : o.op = Op.call { callee := Callee.builtin Builtin.append, args := #[s, x], argTypes := #[t, t] })
    (base : Nat) (e : TypeId) (i : TypeInfo) (z : Value) (size bytes : Nat) (h1 : P.underlying t = some (.slice e)) (h2 : P.info? e = some i) (h3 : i.zero = some z) (h4 : i.size = size) (h5 : i.bytes = bytes) (h6 : z.cells.size = size) (h7 : 0 < size)
    (v : Value) (k : Nat) (xs : List Value) (hs : a.eval s = v) (hown : w.ownsRow base e size v k xs) (ad : Addr) (m c : Nat) (news : List Value) (hx : a.eval x = .slice (some ad) m c) (hn : news.length = m * size)
    (hc : ∀ j u, news[j]? = some u → w.cell? (ad.add j) = some u) (h1c : ∀ u ∈ news, u.oneCell' = true) (b1 : k + m ≤ maxLen) (b2 : (k + m) * bytes ≤ 140737488355328) (b3 : base ≤ w.heap.size)
    (hK : ∀ v' w', w'.ownsRow base e size v' (k + m) (xs ++ news) → w.grownBy w' v.ownBlock → (v' = .slice none 0 0 ↔ v = .slice none 0 0 ∧ m = 0) → K (a.put o.dst v') w') :
    if Region.wanted o (yielded ops a.tmps) = true then Oper.wpIn F n P o a w K Q else E := by
  have hw : Region.wanted o (yielded ops a.tmps) = true := by simp [Region.wanted, hg]
  rw [if_pos hw]
  obtain ⟨v', w', hrun, r1, r2, r3⟩ := run_append_own (P := P) w base t o.type e i z size bytes h1 h2 h3 h4 h5 h6 h7 v k xs hown ad m c news hn hc h1c b1 b2 b3
  unfold Oper.wpIn
  refine ⟨?_, ?_⟩
  · simp [Oper.about, hop, resolve, Target.leads, Sem.run_pure]
  · rw [Oper.semAt_plain F _ _ (by rw [hop]; intro c hc'; cases hc')]
    simp [execOp, hop, resolve, invoke, builtin, hs, hx, hrun, Result.andThen]
    exact hK v' w' r1 r2 r3
theorem infoS : (Tryd.prog.info? 9).map (fun i => (i.zero, i.size, i.bytes)) = some (some (.string ⟨#[]⟩), 1, 16) := by kernel_rfl
theorem mixd : Tryd.prog.follows .mixedOrders = true := by kernel_rfl
set_option maxRecDepth 100000 in
set_option maxHeartbeats 2000000 in
theorem Text_in (n : Nat) (hn : 3 ≤ n) (s : Int) (hs : R64 s) (w : World) (hg : GlAt tgl w.heap.size w) :
    CallsIn Fence.wide n Tryd.prog 29 #[.int .u64 s] w fun e W' => e = .returned (.string (txt (bv s))) ∧ Below w.heap.size w W' := by
  have h1 : 1 ≤ n := by omega
  obtain ⟨i0, hi, hz0, hz1, hz2⟩ := info_parts infoS
  refine callsIn_of_wp_marks Tryd.func29 rfl trivial ?_ rfl
  simp only [Tryd.ntmps29, List.size_toArray, List.length_cons, List.length_nil, Nat.reduceAdd, Nat.reduceSub, Array.replicate_succ, Array.replicate_zero, List.push_toArray, List.append_toArray, List.nil_append, List.cons_append]
  gi_wp2_with (refine ⟨trivial, ?_⟩; gi_at_call 36; refine (each_in (n - 1) s _).mono ?_; rintro e w' ⟨rfl, rfl⟩)
  have bO := Boxed.new w 54 (.slice none 0 0)
  have bN := Boxed.new (w.alloc (.cells #[.slice none 0 0] 54)) 23 (.int .u64 s)
  rw [World.size_alloc] at bN
  have hB0 : Below w.heap.size w ((w.alloc (.cells #[.slice none 0 0] 54)).alloc (.cells #[.int .u64 s] 23)) := ((Below.refl _ w).alloc (Nat.le_refl _) _).alloc (by simp) _
  have hG1 := hg.below hB0
  obtain ⟨w1, hw1⟩ : ∃ w1, (w.alloc (.cells #[.slice none 0 0] 54)).alloc (.cells #[.int .u64 s] 23) = w1 := ⟨_, rfl⟩
  have hsz : w1.heap.size = w.heap.size + 2 := by rw [← hw1]; simp
  have bO1 := bO.alloc (.cells #[.int .u64 s] 23)
  rw [hw1] at bO1 bN hB0 hG1 ⊢
  refine wpIn_rangeFunc_C (full := lsL (bv s)) (C := w.heap.size + 1) (n0 := w.heap.size) (t := 23) (w0 := w1) (encs := fun x => #[.int .i64 x]) rfl h1 (gf := 43) (lb := #[.pointer (some ⟨w.heap.size + 1, 0, none⟩)]) rfl trivial (enters_of Tryd.func43 (by kernel_rfl) rfl)
    (fun l J W hb hu hc hy h0 => each1_in _ (by omega) l (w.heap.size + 1) w.heap.size (by omega) s hs J W hu hc hy (hG1.below (hb.mono (by omega))) (below_at hb bN) h0) (by omega) (by omega) (Below.refl _ _) (fun _ => rfl)
    (fun pre W => (∃ v, Boxed W w.heap.size 54 v ∧ W.ownsRow w.heap.size 9 1 v pre.length (pre.map (fun o => Value.string (dig o))) ∧ ∃ u, Boxed W (w.heap.size + 1) 23 u) ∧ Below w.heap.size w W ∧ w.heap.size + 2 ≤ W.heap.size)
    ?up ?cell ?obj ⟨⟨_, bO1, World.ownsRow_nil _ _ _ _, _, bN⟩, hB0, by omega⟩
    (fun x => { tmps := #[.int .u64 s, undef, .string ⟨#[]⟩, .pointer (some ⟨w.heap.size, 0, none⟩), .int .i64 x, .int .u64 s, .func (.func 43) #[] #[.pointer (some ⟨w.heap.size + 1, 0, none⟩)], .int .i64 x, undef, undef, undef, undef, undef, undef, undef, undef, undef, undef], defers := [] }) ?assign ?body ?done
  case up =>
    rintro pre A B' ⟨⟨v, hv, hr, u, hn⟩, hb, hz⟩ hb'
    exact ⟨⟨v, below_at hb' hv, ownsRow_below hr hb', u, below_at hb' hn⟩, hb.trans (hb'.mono (by omega)), Nat.le_trans hz hb'.size⟩
  case cell =>
    rintro pre A v' ⟨⟨v, hv, hr, u, hn⟩, hb, hz⟩
    exact ⟨⟨v, boxed_setCell _ hv (by omega), hr.kept (grownBy_setCell' A _ v') (.inr (hn.not_row (by decide) hr).symm), _, hn.set v'⟩, hb.setCell (p := ⟨w.heap.size + 1, 0, none⟩) (by simp) v', Nat.le_trans hz (KeepsWalks.setCell A _ v').size⟩
  case obj =>
    rintro pre A l o o' ⟨⟨v, hv, hr, u, hn⟩, hb, hz⟩ hl ho hc
    exact ⟨⟨v, boxed_putObj _ hv (by omega), ownsRow_putObj hr o' ho hc, u, boxed_putObj _ hn (by omega)⟩, hb.trans (below_putObj l o o' (by omega) ho), by simpa using hz⟩
  case assign =>
    intro l x W K hK
    gi_wp2
    exact hK
  case body =>
    rintro l pre x rest W hfull ⟨⟨v, hv, hrow, u0, hnb⟩, hB, hz⟩
    have hc := hv.cell
    have hpl : pre.length ≤ 64 := by have h1 := congrArg List.length hfull; have h2 := lsL_len (bv s); rw [List.length_append] at h1; omega
    have hmx := mixd
    have hx : x ∈ lsL (bv s) := by rw [hfull]; simp
    have hx2 := has_range (mem_lsL.1 hx)
    obtain ⟨i, rfl⟩ : ∃ i : Nat, x = i := ⟨x.toNat, by omega⟩
    have hvd : Boxed W.drew w.heap.size 54 v := hv
    have hrowd : W.drew.ownsRow w.heap.size 9 1 v pre.length (pre.map (fun o => Value.string (dig o))) := hrow
    have hnbd : Boxed W.drew (w.heap.size + 1) 23 u0 := hnb
    have hBd : Below w.heap.size w W.drew := hB.drew
    have hcd := hvd.cell
    have hca : ((W.alloc (.cells #[.string ⟨(Lib.decDigits i).toArray⟩] 9)).drew).cell? ⟨w.heap.size, 0, none⟩ = some v := (hv.alloc _).cell
    have hxi : dig (i : Int) = ⟨(Lib.decDigits i).toArray⟩ := rfl
    gi_wp2
    refine wpIn_region_any hmx ?_
    change wpAnyIn _ _ _ _ _ _ _ _ _ (World.drew _)
    refine wpAnyIn_ready (rs := [0, 1]) (by kernel_rfl) (by simp) ?_
    refine AllReadyIn.cons rfl (fun K hK => ?_) ?_
    · go_simp
      refine hK _ _ ?_; clear hK K
      refine wpAnyIn_ready (rs := [1]) (by kernel_rfl) (by simp) ?_
      refine AllReadyIn.cons rfl (fun K hK => ?_) AllReadyIn.nil
      go_simp
      refine hK _ _ ?_; clear hK K
      refine wpAnyIn_ready (rs := [2]) (by kernel_rfl) (by simp) ?_
      refine AllReadyIn.cons rfl (fun K hK => ?_) AllReadyIn.nil
      go_simp
      refine ⟨trivial, fun _ => by omega, ?_⟩
      refine (CallsIn.inRound l (callsIn_wide.2 (Tryd.strconv_Itoa_small i (by omega) _))).mono ?_
      rintro e w' ⟨rfl, rfl⟩
      dsimp only
      refine hK _ _ ?_; clear hK K
      refine wpAnyIn_ready (rs := [3]) (by kernel_rfl) (by simp) ?_
      refine AllReadyIn.cons rfl (fun K hK => ?_) AllReadyIn.nil
      go_simp
      refine hK _ _ ?_; clear hK K
      refine wpAnyIn_ready (rs := [4]) (by kernel_rfl) (by simp) ?_
      refine AllReadyIn.cons rfl (fun K hK => ?_) AllReadyIn.nil
      refine stepIn_append _ rfl _ _ 54 rfl w.heap.size 9 i0 (.string ⟨#[]⟩) 1 16 Tryd.underlying54 hi hz0 hz1 hz2 rfl (by decide) v pre.length _ rfl (hrowd.alloc _) ⟨W.heap.size, 0, none⟩ 1 1 [.string ⟨(Lib.decDigits i).toArray⟩] rfl rfl (cell_one_new _ _ _) (by simp [Value.oneCell']) (by unfold maxLen; omega) (by omega) (by have := hB.size; simp; omega) ?_
      intro v' w1 hown' hgrow _
      obtain ⟨g', cap', rfl⟩ := ownsRow_succ hown'
      obtain ⟨hv1, hv2, hr2, hk2, hb2⟩ := hvd.appended (by decide) hrowd hBd.size (Nat.le_refl _) hown' hgrow
      have hc1 := hv1.cell
      have hf1 := hv1.frozen
      refine hK _ _ ?_; clear hK K
      refine wpAnyIn_ready (rs := [5]) (by kernel_rfl) (by simp) ?_
      refine AllReadyIn.cons rfl (fun K hK => ?_) AllReadyIn.nil
      go_simp
      refine hK _ _ ?_; clear hK K
      refine wpAnyIn_done (by kernel_rfl) ?_ _
      gi_wp2
      have hsz2 : w.heap.size + 2 ≤ w1.heap.size := by have := hgrow.size; simp at this; omega
      have hbb : Boxed w1 (w.heap.size + 1) 23 u0 := (hnbd.alloc _).kept hgrow (hnbd.not_row (by decide) hrowd)
      refine ⟨(KeepsOthers.drew _).trans hk2, ⟨⟨_, hv2, by simpa using hr2, u0, boxed_setCell _ hbb (by omega)⟩, hBd.trans hb2, hsz2⟩, fun v hv => ?_, (Below.refl w.heap.size W).drew.trans hb2⟩
      exact boxed_setCell _ ((show Boxed W.drew _ _ _ from hv).alloc _ |>.kept hgrow (hv.not_row (by decide) hrow)) (by omega)
    refine AllReadyIn.cons rfl (fun K hK => ?_) AllReadyIn.nil
    go_simp
    refine hK _ _ ?_; clear hK K
    refine wpAnyIn_ready (rs := [0, 2]) (by kernel_rfl) (by simp) ?_
    refine AllReadyIn.cons rfl (fun K hK => ?_) ?_
    · go_simp
      refine hK _ _ ?_; clear hK K
      refine wpAnyIn_ready (rs := [2]) (by kernel_rfl) (by simp) ?_
      refine AllReadyIn.cons rfl (fun K hK => ?_) AllReadyIn.nil
      go_simp
      refine ⟨trivial, fun _ => by omega, ?_⟩
      refine (CallsIn.inRound l (callsIn_wide.2 (Tryd.strconv_Itoa_small i (by omega) _))).mono ?_
      rintro e w' ⟨rfl, rfl⟩
      dsimp only
      refine hK _ _ ?_; clear hK K
      refine wpAnyIn_ready (rs := [3]) (by kernel_rfl) (by simp) ?_
      refine AllReadyIn.cons rfl (fun K hK => ?_) AllReadyIn.nil
      go_simp
      refine hK _ _ ?_; clear hK K
      refine wpAnyIn_ready (rs := [4]) (by kernel_rfl) (by simp) ?_
      refine AllReadyIn.cons rfl (fun K hK => ?_) AllReadyIn.nil
      refine stepIn_append _ rfl _ _ 54 rfl w.heap.size 9 i0 (.string ⟨#[]⟩) 1 16 Tryd.underlying54 hi hz0 hz1 hz2 rfl (by decide) v pre.length _ rfl (hrowd.alloc _) ⟨W.heap.size, 0, none⟩ 1 1 [.string ⟨(Lib.decDigits i).toArray⟩] rfl rfl (cell_one_new _ _ _) (by simp [Value.oneCell']) (by unfold maxLen; omega) (by omega) (by have := hB.size; simp; omega) ?_
      intro v' w1 hown' hgrow _
      obtain ⟨g', cap', rfl⟩ := ownsRow_succ hown'
      obtain ⟨hv1, hv2, hr2, hk2, hb2⟩ := hvd.appended (by decide) hrowd hBd.size (Nat.le_refl _) hown' hgrow
      have hc1 := hv1.cell
      have hf1 := hv1.frozen
      refine hK _ _ ?_; clear hK K
      refine wpAnyIn_ready (rs := [5]) (by kernel_rfl) (by simp) ?_
      refine AllReadyIn.cons rfl (fun K hK => ?_) AllReadyIn.nil
      go_simp
      refine hK _ _ ?_; clear hK K
      refine wpAnyIn_done (by kernel_rfl) ?_ _
      gi_wp2
      have hsz2 : w.heap.size + 2 ≤ w1.heap.size := by have := hgrow.size; simp at this; omega
      have hbb : Boxed w1 (w.heap.size + 1) 23 u0 := (hnbd.alloc _).kept hgrow (hnbd.not_row (by decide) hrowd)
      refine ⟨(KeepsOthers.drew _).trans hk2, ⟨⟨_, hv2, by simpa using hr2, u0, boxed_setCell _ hbb (by omega)⟩, hBd.trans hb2, hsz2⟩, fun v hv => ?_, (Below.refl w.heap.size W).drew.trans hb2⟩
      exact boxed_setCell _ ((show Boxed W.drew _ _ _ from hv).alloc _ |>.kept hgrow (hv.not_row (by decide) hrow)) (by omega)
    refine AllReadyIn.cons rfl (fun K hK => ?_) AllReadyIn.nil
    go_simp
    refine ⟨trivial, fun _ => by omega, ?_⟩
    refine (CallsIn.inRound l (callsIn_wide.2 (Tryd.strconv_Itoa_small i (by omega) _))).mono ?_
    rintro e w' ⟨rfl, rfl⟩
    dsimp only
    refine hK _ _ ?_; clear hK K
    refine wpAnyIn_ready (rs := [0, 3]) (by kernel_rfl) (by simp) ?_
    refine AllReadyIn.cons rfl (fun K hK => ?_) ?_
    · go_simp
      refine hK _ _ ?_; clear hK K
      refine wpAnyIn_ready (rs := [3]) (by kernel_rfl) (by simp) ?_
      refine AllReadyIn.cons rfl (fun K hK => ?_) AllReadyIn.nil
      go_simp
      refine hK _ _ ?_; clear hK K
      refine wpAnyIn_ready (rs := [4]) (by kernel_rfl) (by simp) ?_
      refine AllReadyIn.cons rfl (fun K hK => ?_) AllReadyIn.nil
      refine stepIn_append _ rfl _ _ 54 rfl w.heap.size 9 i0 (.string ⟨#[]⟩) 1 16 Tryd.underlying54 hi hz0 hz1 hz2 rfl (by decide) v pre.length _ rfl (hrowd.alloc _) ⟨W.heap.size, 0, none⟩ 1 1 [.string ⟨(Lib.decDigits i).toArray⟩] rfl rfl (cell_one_new _ _ _) (by simp [Value.oneCell']) (by unfold maxLen; omega) (by omega) (by have := hB.size; simp; omega) ?_
      intro v' w1 hown' hgrow _
      obtain ⟨g', cap', rfl⟩ := ownsRow_succ hown'
      obtain ⟨hv1, hv2, hr2, hk2, hb2⟩ := hvd.appended (by decide) hrowd hBd.size (Nat.le_refl _) hown' hgrow
      have hc1 := hv1.cell
      have hf1 := hv1.frozen
      refine hK _ _ ?_; clear hK K
      refine wpAnyIn_ready (rs := [5]) (by kernel_rfl) (by simp) ?_
      refine AllReadyIn.cons rfl (fun K hK => ?_) AllReadyIn.nil
      go_simp
      refine hK _ _ ?_; clear hK K
      refine wpAnyIn_done (by kernel_rfl) ?_ _
      gi_wp2
      have hsz2 : w.heap.size + 2 ≤ w1.heap.size := by have := hgrow.size; simp at this; omega
      have hbb : Boxed w1 (w.heap.size + 1) 23 u0 := (hnbd.alloc _).kept hgrow (hnbd.not_row (by decide) hrowd)
      refine ⟨(KeepsOthers.drew _).trans hk2, ⟨⟨_, hv2, by simpa using hr2, u0, boxed_setCell _ hbb (by omega)⟩, hBd.trans hb2, hsz2⟩, fun v hv => ?_, (Below.refl w.heap.size W).drew.trans hb2⟩
      exact boxed_setCell _ ((show Boxed W.drew _ _ _ from hv).alloc _ |>.kept hgrow (hv.not_row (by decide) hrow)) (by omega)
    refine AllReadyIn.cons rfl (fun K hK => ?_) AllReadyIn.nil
    go_simp
    refine hK _ _ ?_; clear hK K
    refine wpAnyIn_ready (rs := [0]) (by kernel_rfl) (by simp) ?_
    refine AllReadyIn.cons rfl (fun K hK => ?_) AllReadyIn.nil
    go_simp
    refine hK _ _ ?_; clear hK K
    refine wpAnyIn_ready (rs := [4]) (by kernel_rfl) (by simp) ?_
    refine AllReadyIn.cons rfl (fun K hK => ?_) AllReadyIn.nil
    refine stepIn_append _ rfl _ _ 54 rfl w.heap.size 9 i0 (.string ⟨#[]⟩) 1 16 Tryd.underlying54 hi hz0 hz1 hz2 rfl (by decide) v pre.length _ rfl (hrowd.alloc _) ⟨W.heap.size, 0, none⟩ 1 1 [.string ⟨(Lib.decDigits i).toArray⟩] rfl rfl (cell_one_new _ _ _) (by simp [Value.oneCell']) (by unfold maxLen; omega) (by omega) (by have := hB.size; simp; omega) ?_
    intro v' w1 hown' hgrow _
    obtain ⟨g', cap', rfl⟩ := ownsRow_succ hown'
    obtain ⟨hv1, hv2, hr2, hk2, hb2⟩ := hvd.appended (by decide) hrowd hBd.size (Nat.le_refl _) hown' hgrow
    have hc1 := hv1.cell
    have hf1 := hv1.frozen
    refine hK _ _ ?_; clear hK K
    refine wpAnyIn_ready (rs := [5]) (by kernel_rfl) (by simp) ?_
    refine AllReadyIn.cons rfl (fun K hK => ?_) AllReadyIn.nil
    go_simp
    refine hK _ _ ?_; clear hK K
    refine wpAnyIn_done (by kernel_rfl) ?_ _
    gi_wp2
    have hsz2 : w.heap.size + 2 ≤ w1.heap.size := by have := hgrow.size; simp at this; omega
    have hbb : Boxed w1 (w.heap.size + 1) 23 u0 := (hnbd.alloc _).kept hgrow (hnbd.not_row (by decide) hrowd)
    refine ⟨(KeepsOthers.drew _).trans hk2, ⟨⟨_, hv2, by simpa using hr2, u0, boxed_setCell _ hbb (by omega)⟩, hBd.trans hb2, hsz2⟩, fun v hv => ?_, (Below.refl w.heap.size W).drew.trans hb2⟩
    exact boxed_setCell _ ((show Boxed W.drew _ _ _ from hv).alloc _ |>.kept hgrow (hv.not_row (by decide) hrow)) (by omega)
  case done =>
    rintro D W hD ⟨⟨v, hv, hrow, u0, hnb⟩, hB, hz⟩ hK
    have hc := hv.cell
    obtain ⟨hr1, hr2⟩ := hrow
    rcases hr2 with ⟨rfl, hn⟩ | ⟨g, cap, cur, rfl, hb, hg2, hnc, hcm, hcs, htk⟩
    · have hK' := hK
      gi_wp2
      refine ⟨by simp, .inl ⟨_, _, rfl, run_takeDeferred hK, ?_⟩⟩
      refine ⟨_, results_tmp rfl _ _ _, by rw [txt_nil (List.length_eq_zero_iff.1 hn)]; rfl, hB.trans (belowK_b (w := w) (Nat.le_refl _) W D _ _ (by omega) hK rfl rfl)⟩
    · by_cases hl0 : lsL (bv s) = []
      · have hl1 : (((lsL (bv s)).length : Int) == 0) = true := by rw [hl0]; rfl
        gi_wp2
        refine ⟨by simp, .inl ⟨_, _, rfl, run_takeDeferred hK, ?_⟩⟩
        exact ⟨_, results_tmp rfl _ _ _, by rw [txt_nil hl0]; rfl, hB.trans (belowK_b (w := w) (Nat.le_refl _) W D _ _ (by omega) hK rfl rfl)⟩
      · have hl1 : (((lsL (bv s)).length : Int) == 0) = false := by
          have : (lsL (bv s)).length ≠ 0 := fun e => hl0 (List.length_eq_zero_iff.1 e)
          simp; omega
        have hlen := lsL_len (bv s)
        have hgs : g < W.heap.size := (Array.getElem?_eq_some_iff.1 hg2).1
        have hDs : D < W.heap.size := (Array.getElem?_eq_some_iff.1 hK).1
        have hJ := Tryd.strings_Join g 0 cap ((lsL (bv s)).map dig) ⟨#[44]⟩ W (fun j y hj => cell_taken hg2 htk hj) hgs (by rw [List.length_map]; omega) (by rw [List.length_map]; exact hnc) (txt_len _)
        rw [List.length_map] at hJ
        gi_wp2_with (refine ⟨trivial, ?_⟩; gi_at_call 38; refine (callsIn_wide.2 hJ).mono ?_; rintro e w' ⟨rfl, hb'⟩)
        have hK2 : w'.heap[D]? = some (Obj.deferred (some [])) := below_at hb' hK
        refine ⟨by simp, .inl ⟨_, _, rfl, run_takeDeferred hK2, ?_⟩⟩
        exact ⟨_, results_tmp rfl _ _ _, by rw [txt_cons hl0]; rfl, (hB.trans (hb'.mono (by omega))).trans (belowK_b (w := w) (Nat.le_refl _) w' D _ _ (by omega) hK2 rfl rfl)⟩
end Go.Nx
