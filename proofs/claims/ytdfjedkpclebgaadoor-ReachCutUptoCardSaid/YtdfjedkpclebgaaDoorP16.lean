/-
  A part of the machine, and of what is walked.
-/
import Derived.Test.YtdfjedkpclebgaaDoorP15
import Derived.WalkKit
import Derived.Deep.RegionHeld3
import Derived.Deep.AppendLies
import Derived.IntWalk
section
set_option linter.unusedVariables false
set_option linter.unusedSimpArgs false
set_option maxRecDepth 20000
set_option maxHeartbeats 0
namespace Go.Nx
open Go Go.RowKit Go.Shelf Go.Proofs

theorem infoR : (Tryd.prog.info? 39).map (fun i => (i.zero, i.size, i.bytes)) = some (some (.slice none 0 0), 1, 24) := by kernel_rfl
theorem row_out {w w' : World} {base n : Nat} {e : TypeId} {v : Value} {news : List Value} (h : w'.ownsRow base e 1 v n news) (hv : v ≠ .slice none 0 0) :
    ∃ (g cap : Nat) (cur : Array Value), v = .slice (some ⟨g, 0, none⟩) n cap ∧ base ≤ g ∧ w'.heap[g]? = some (.cells cur e (0, 0)) ∧ n ≤ cap ∧ cur.size = cap ∧ ∀ (j : Nat) (u : Value), news[j]? = some u → cur[j]? = some u := by
  rcases h.2 with ⟨rfl, _⟩ | ⟨g, cap, cur, rfl, hb, hg, hn, _, hcs, htk⟩
  · exact absurd rfl hv
  · refine ⟨g, cap, cur, rfl, hb, hg, hn, by omega, fun j u hu => ?_⟩
    rw [← htk, List.getElem?_take] at hu
    split at hu
    · simpa using hu
    · cases hu
theorem clone41 (b off n c : Nat) (news : List Value) (w : World) (hl : news.length = n) (hn : n ≤ 1048576) (hc : ∀ (j : Nat) (u : Value), news[j]? = some u → w.cell? ⟨b, off + j, none⟩ = some u) (h1 : ∀ u ∈ news, u.oneCell' = true) :
    Calls Tryd.prog 41 #[.slice (some ⟨b, off, none⟩) n c] w fun e w' => ∃ (g cap : Nat) (cur : Array Value), e = .returned (.slice (some ⟨g, 0, none⟩) n cap) ∧ w.heap.size ≤ g ∧ w'.heap[g]? = some (.cells cur 39 (0, 0)) ∧ n ≤ cap ∧ cur.size = cap ∧ (∀ (j : Nat) (u : Value), news[j]? = some u → cur[j]? = some u) ∧ Below w.heap.size w w' := by
  obtain ⟨i0, hi, hz0, hz1, hz2⟩ := info_parts infoR
  refine (Tryd.slices_Clone_f41 i0 (.slice none 0 0) 1 24 hi hz0 hz1 hz2 rfl (by decide) (fun _ => by kernel_rfl) b off n c news w (by omega) (by unfold maxLen; omega) (by omega) hc h1).mono ?_
  rintro e w' ⟨v', rfl, hr, hv, hb⟩
  obtain ⟨g, cap, cur, rfl, k1, k2, k3, k4, k5⟩ := row_out (w := w) hr hv
  exact ⟨g, cap, cur, rfl, k1, k2, k3, k4, k5, hb⟩
theorem clone42 (b off n c : Nat) (news : List Value) (w : World) (hl : news.length = n) (hn : n ≤ 1048576) (hc : ∀ (j : Nat) (u : Value), news[j]? = some u → w.cell? ⟨b, off + j, none⟩ = some u) (h1 : ∀ u ∈ news, u.oneCell' = true) :
    Calls Tryd.prog 42 #[.slice (some ⟨b, off, none⟩) n c] w fun e w' => ∃ (g cap : Nat) (cur : Array Value), e = .returned (.slice (some ⟨g, 0, none⟩) n cap) ∧ w.heap.size ≤ g ∧ w'.heap[g]? = some (.cells cur 3 (0, 0)) ∧ n ≤ cap ∧ cur.size = cap ∧ (∀ (j : Nat) (u : Value), news[j]? = some u → cur[j]? = some u) ∧ Below w.heap.size w w' := by
  obtain ⟨i0, hi, hz0, hz1, hz2⟩ := info_parts infoI
  refine (Tryd.slices_Clone_f42 i0 (.int .i64 0) 1 8 hi hz0 hz1 hz2 rfl (by decide) (fun _ => by kernel_rfl) b off n c news w (by omega) (by unfold maxLen; omega) (by omega) hc h1).mono ?_
  rintro e w' ⟨v', rfl, hr, hv, hb⟩
  obtain ⟨g, cap, cur, rfl, k1, k2, k3, k4, k5⟩ := row_out (w := w) hr hv
  exact ⟨g, cap, cur, rfl, k1, k2, k3, k4, k5, hb⟩
theorem put_out (w5 w : World) (B g g2 i si len cg lr cg2 : Nat) (n v : Int) (old1 old2 old3 : Value) (us rw_ : List Value) (hgB : g ≠ B + 1) (hg2B : g2 ≠ B + 1) (hgg : g ≠ g2) (hBg : B ≤ g) (hBg2 : B ≤ g2) (hBB : w.heap.size ≤ B) (hb : Below B w w5)
    (r50 : w5.cell? ⟨B + 1, 0, none⟩ = some (.int .i64 0)) (r51 : w5.cell? ⟨B + 1, 1, none⟩ = some old1) (g5i : w5.cell? ⟨g, i, none⟩ = some (.slice (some ⟨g2, 0, none⟩) lr cg2)) (g5j : ∀ j u, us[j]? = some u → j ≠ i → w5.cell? ⟨g, j, none⟩ = some u)
    (h5j : ∀ j u, rw_[j]? = some u → w5.cell? ⟨g2, j, none⟩ = some u) (h5s : w5.cell? ⟨g2, si, none⟩ = some old3) (hglt : g < w5.heap.size) (hg2lt : g2 < w5.heap.size) :
    ∀ w8, w8 = ((w5.setCell ⟨g2, si, none⟩ (.int .i64 v)).setCell ⟨B + 1, 0, none⟩ (.int .i64 n)).setCell ⟨B + 1, 1, none⟩ (.slice (some ⟨g, 0, none⟩) len cg) →
    w8.cell? ⟨B + 1, 0, none⟩ = some (.int .i64 n) ∧ w8.cell? ⟨B + 1, 1, none⟩ = some (.slice (some ⟨g, 0, none⟩) len cg) ∧ (∀ j u, us[j]? = some u → j ≠ i → w8.cell? ⟨g, j, none⟩ = some u) ∧ w8.cell? ⟨g, i, none⟩ = some (.slice (some ⟨g2, 0, none⟩) lr cg2) ∧
    (∀ j u, rw_[j]? = some u → j ≠ si → w8.cell? ⟨g2, j, none⟩ = some u) ∧ w8.cell? ⟨g2, si, none⟩ = some (.int .i64 v) ∧ Below B w w8 ∧ g < w8.heap.size ∧ g2 < w8.heap.size := by
  intro w8 h8
  have up : ∀ (b j : Nat), b ≠ B + 1 → w8.cell? ⟨b, j, none⟩ = (w5.setCell ⟨g2, si, none⟩ (.int .i64 v)).cell? ⟨b, j, none⟩ := fun b j hb => by
    rw [h8]
    exact (World.cell?_setCell_other _ _ _ _ (fun e => hb (congrArg Addr.block e).symm)).trans (World.cell?_setCell_other _ _ _ _ (fun e => hb (congrArg Addr.block e).symm))
  refine ⟨?_, ?_, ?_, ?_, ?_, ?_, ?_, ?_, ?_⟩
  · rw [h8]
    refine (World.cell?_setCell_other _ _ _ _ (by simp)).trans (World.cell?_setCell_same _ _ _ (u := .int .i64 0) ?_)
    exact (World.cell?_setCell_other _ _ _ _ (fun e => hg2B (congrArg Addr.block e))).trans r50
  · rw [h8]
    refine World.cell?_setCell_same _ _ _ (u := old1) ?_
    refine (World.cell?_setCell_other _ _ _ _ (by simp)).trans ?_
    exact (World.cell?_setCell_other _ _ _ _ (fun e => hg2B (congrArg Addr.block e))).trans r51
  · intro j u hj hne
    exact (up g j hgB).trans ((World.cell?_setCell_other _ _ _ _ (fun e => hgg (congrArg Addr.block e).symm)).trans (g5j j u hj hne))
  · exact (up g i hgB).trans ((World.cell?_setCell_other _ _ _ _ (fun e => hgg (congrArg Addr.block e).symm)).trans g5i)
  · intro j u hj hne
    exact (up g2 j hg2B).trans ((World.cell?_setCell_other _ _ _ _ (fun e => hne (congrArg Addr.off e).symm)).trans (h5j j u hj))
  · exact (up g2 si hg2B).trans (World.cell?_setCell_same _ _ _ h5s)
  · rw [h8]; exact ((hb.setCell hBg2 _).setCell (Nat.le_succ B) _).setCell (Nat.le_succ B) _
  · rw [h8]; simpa [World.setCell] using hglt
  · rw [h8]; simpa [World.setCell] using hg2lt
theorem put_calls (n o s v : Int) (b0 o0 cap len br or_ lr cr : Nat) (w : World) (R : Ending → World → Prop) (us rw_ : List Value)
    (hb0 : b0 < w.heap.size) (hlen : us.length = len) (hcap : len ≤ cap) (hbig : len ≤ 1048576) (hus : ∀ j u, us[j]? = some u → w.cell? ⟨b0, o0 + j, none⟩ = some u) (hus1 : ∀ u ∈ us, u.oneCell' = true)
    (ho : 1 ≤ o ∧ o ≤ len) (hrow : us[(o - 1).toNat]? = some (.slice (some ⟨br, or_, none⟩) lr cr)) (hbr : br < w.heap.size) (hrl : rw_.length = lr) (hlr : lr ≤ 1048576) (hrw : ∀ j u, rw_[j]? = some u → w.cell? ⟨br, or_ + j, none⟩ = some u) (hrw1 : ∀ u ∈ rw_, u.oneCell' = true)
    (hs : 0 ≤ s ∧ s < lr) (hv : 0 ≤ v ∧ v ≤ len)
    (hth : Calls Tryd.prog 40 #[.agg #[.int .i64 n, .slice (some ⟨b0, o0, none⟩) len cap], .int .i64 o, .int .i64 s] ((w.alloc (.cells #[.int .i64 n, .slice (some ⟨b0, o0, none⟩) len cap] 24)).alloc (.cells #[.int .i64 0, .slice none 0 0] 24))
      fun e w' => e = .returned (.bool true) ∧ Below (w.heap.size + 2) ((w.alloc (.cells #[.int .i64 n, .slice (some ⟨b0, o0, none⟩) len cap] 24)).alloc (.cells #[.int .i64 0, .slice none 0 0] 24)) w')
    (hR : ∀ (w' : World) (g cg g2 cg2 : Nat), Below w.heap.size w w' → w.heap.size ≤ g → g < w'.heap.size → w.heap.size ≤ g2 → g2 < w'.heap.size → len ≤ cg → lr ≤ cg2 → (∀ j u, us[j]? = some u → j ≠ (o - 1).toNat → w'.cell? ⟨g, j, none⟩ = some u) → w'.cell? ⟨g, (o - 1).toNat, none⟩ = some (.slice (some ⟨g2, 0, none⟩) lr cg2) →
      (∀ j u, rw_[j]? = some u → j ≠ s.toNat → w'.cell? ⟨g2, j, none⟩ = some u) → w'.cell? ⟨g2, s.toNat, none⟩ = some (.int .i64 v) → R (.returned (.tuple #[.agg #[.int .i64 n, .slice (some ⟨g, 0, none⟩) len cg], .bool true])) w') :
    Calls Tryd.prog 10 #[.agg #[.int .i64 n, .slice (some ⟨b0, o0, none⟩) len cap], .int .i64 o, .int .i64 s, .int .i64 v] w R := by
  have hz : Tryd.prog.info? 39 = Tryd.prog.info? 39 := rfl
  go_enter Tryd.func10, Tryd.ntmps10
  go_wp2_with (go_at_call 40; refine hth.mono ?_; rintro e w1 ⟨rfl, hb1⟩; have c0 : w1.cell? ⟨w.heap.size, 0, none⟩ = some (.int .i64 n) := (hb1.cell (by simp)).trans (by simp); have c1 : w1.cell? ⟨w.heap.size, 1, none⟩ = some (.slice (some ⟨b0, o0, none⟩) len cap) := (hb1.cell (by simp)).trans (by simp); have f1 : w1.frozen? ⟨w.heap.size, 1, none⟩ = false := (hb1.frozen (by simp)).trans (by simp); have d0 : w1.cell? ⟨w.heap.size + 1, 0, none⟩ = some (.int .i64 0) := (hb1.cell (by simp)).trans (by simp); have d1 : w1.cell? ⟨w.heap.size + 1, 1, none⟩ = some (.slice none 0 0) := (hb1.cell (by simp)).trans (by simp); have e0 : ∀ j, w1.frozen? ⟨w.heap.size + 1, j, none⟩ = false := fun j => (hb1.frozen (by simp)).trans (by simp))
  have past1 : ∀ k i, k < w.heap.size → w1.cell? ⟨k, i, none⟩ = w.cell? ⟨k, i, none⟩ := fun k i hk => (hb1.cell (show k < _ by omega)).trans ((World.cell?_alloc_past _ _ _ (by simp; omega)).trans (World.cell?_alloc_past _ _ _ hk))
  have hs1 : w.heap.size + 2 ≤ w1.heap.size := by have := hb1.size; simp at this; omega
  refine (clone41 b0 o0 len cap us w1 hlen hbig (fun j u hj => (past1 _ _ hb0).trans (hus j u hj)) hus1).mono ?_
  rintro e w2 ⟨g, cg, cur, rfl, hg1, hg2, hg3, hg4, hg5, hb2⟩
  have hs2 := hb2.size
  have c0' : w2.cell? ⟨w.heap.size, 0, none⟩ = some (.int .i64 n) := (hb2.cell (show w.heap.size < _ by omega)).trans c0
  have c1' : w2.cell? ⟨w.heap.size, 1, none⟩ = some (.slice (some ⟨b0, o0, none⟩) len cap) := (hb2.cell (show w.heap.size < _ by omega)).trans c1
  have f1' : w2.frozen? ⟨w.heap.size, 1, none⟩ = false := (hb2.frozen (show w.heap.size < _ by omega)).trans f1
  dsimp only
  go_wp2_with fail
  have hgne : w.heap.size ≠ g := by omega
  have d0' := (hb2.cell (p := ⟨w.heap.size + 1, 0, none⟩) (show w.heap.size + 1 < _ by omega)).trans d0
  have d1' := (hb2.cell (p := ⟨w.heap.size + 1, 1, none⟩) (show w.heap.size + 1 < _ by omega)).trans d1
  have e0' := fun j => (hb2.frozen (p := ⟨w.heap.size + 1, j, none⟩) (show w.heap.size + 1 < _ by omega)).trans (e0 j)
  have past2 : ∀ k i, k < w.heap.size → w2.cell? ⟨k, i, none⟩ = w.cell? ⟨k, i, none⟩ := fun k i hk => (hb2.cell (show k < _ by omega)).trans (past1 k i hk)
  obtain ⟨w3, hw3⟩ : ∃ w3, w3 = w2.setCell ⟨w.heap.size, 1, none⟩ (.slice (some ⟨g, 0, none⟩) len cg) := ⟨_, rfl⟩
  have c30 : w3.cell? ⟨w.heap.size, 0, none⟩ = some (.int .i64 n) := by rw [hw3]; exact (World.cell?_setCell_other _ _ _ _ (by simp)).trans c0'
  have c31 : w3.cell? ⟨w.heap.size, 1, none⟩ = some (.slice (some ⟨g, 0, none⟩) len cg) := by rw [hw3]; exact World.cell?_setCell_same _ _ _ c1'
  have c3g : ∀ j u, us[j]? = some u → w3.cell? ⟨g, j, none⟩ = some u := fun j u hj => by
    rw [hw3]; refine (World.cell?_setCell_other _ _ _ _ (fun e => hgne (congrArg Addr.block e))).trans ?_
    simp [World.cell?, hg2]; exact hg5 j u hj
  have past3 : ∀ k i, k < w.heap.size → w3.cell? ⟨k, i, none⟩ = w.cell? ⟨k, i, none⟩ := fun k i hk => by
    rw [hw3]; exact (World.cell?_setCell_other _ _ _ _ (fun e => Nat.ne_of_gt hk (congrArg Addr.block e))).trans (past2 k i hk)
  have f3g : w3.frozen? ⟨g, (o - 1).toNat, none⟩ = false := by
    rw [hw3]
    refine (World.frozen?_of_block (w := w2) (Below.heap_setCell _ _ _ _ (show g ≠ w.heap.size from Ne.symm hgne))).trans ?_
    simp [World.frozen?, hg2]
  have d30 : w3.cell? ⟨w.heap.size + 1, 0, none⟩ = some (.int .i64 0) := by rw [hw3]; exact (World.cell?_setCell_other _ _ _ _ (by simp)).trans d0'
  have d31 : w3.cell? ⟨w.heap.size + 1, 1, none⟩ = some (.slice none 0 0) := by rw [hw3]; exact (World.cell?_setCell_other _ _ _ _ (by simp)).trans d1'
  have e30 : ∀ j, w3.frozen? ⟨w.heap.size + 1, j, none⟩ = false := fun j => by
    rw [hw3]
    exact (World.frozen?_of_block (w := w2) (Below.heap_setCell _ _ _ _ (show w.heap.size + 1 ≠ w.heap.size by omega))).trans (e0' j)
  have hbw3 : Below w.heap.size w w3 := by
    rw [hw3]
    exact ((((Below.refl _ w).alloc (Nat.le_refl _) _).alloc (by simp) _).trans (hb1.mono (by omega))).trans (hb2.mono (by omega)) |>.setCell (Nat.le_refl _) _
  rw [← hw3]
  have hoi : (o - 1).toNat < us.length := by omega
  have hwo : IntKind.i64.wrap (o - 1) = o - 1 := wrap_i64 ⟨by omega, by omega⟩
  have crow := c3g _ _ hrow
  have hs3 : w3.heap.size = w2.heap.size := by rw [hw3]; simp [World.setCell]
  have hg3' : g < w3.heap.size := by rw [hs3]; exact (Array.getElem?_eq_some_iff.1 hg2).1
  have hoj : 0 ≤ o - 1 := by omega
  have hoj2 : o - 1 < (len : Int) := by omega
  clear hth hb1 hb2 c0 c1 f1 c0' c1' f1' past1 past2 hg2 hg5 hus hw3 d0 d1 e0 d0' d1' e0'
  have past3d : ∀ k i, k < w.heap.size → w3.drew.cell? ⟨k, i, none⟩ = w.cell? ⟨k, i, none⟩ := past3
  obtain ⟨i, hi⟩ : ∃ i : Nat, o - 1 = (i : Int) := ⟨(o - 1).toNat, by omega⟩
  have hit : (o - 1).toNat = i := by omega
  rw [hit] at crow hoi hrow f3g
  rw [hi] at hwo hoj hoj2
  go_region_law (first
    | (go_simp; go_at_call 42; refine (clone42 br or_ lr cr rw_ w3.drew hrl hlr (fun j u hj => (past3d _ _ hbr).trans (hrw j u hj)) hrw1).mono ?_; rintro e w4 ⟨g2, cg2, cur2, rfl, hh1, hh2, hh3, hh4, hh5, hb4⟩; have k1 : w4.cell? ⟨w.heap.size, 1, none⟩ = some (.slice (some ⟨g, 0, none⟩) len cg) := (hb4.cell (show w.heap.size < _ by simp; omega)).trans c31; have k2 : w4.cell? ⟨g, i, none⟩ = some (.slice (some ⟨br, or_, none⟩) lr cr) := (hb4.cell (show g < _ by simp; omega)).trans crow; have k3 : w4.frozen? ⟨g, i, none⟩ = false := (hb4.frozen (show g < _ by simp; omega)).trans f3g))
  all_goals
    have hs4 := hb4.size
    have hs4' : w3.heap.size ≤ w4.heap.size := hs4
    have q0 : w4.cell? ⟨w.heap.size, 0, none⟩ = some (.int .i64 n) := (hb4.cell (show w.heap.size < w3.heap.size by omega)).trans c30
    have r0 : w4.cell? ⟨w.heap.size + 1, 0, none⟩ = some (.int .i64 0) := (hb4.cell (show w.heap.size + 1 < w3.heap.size by omega)).trans d30
    have r1 : w4.cell? ⟨w.heap.size + 1, 1, none⟩ = some (.slice none 0 0) := (hb4.cell (show w.heap.size + 1 < w3.heap.size by omega)).trans d31
    have r2 : ∀ j, w4.frozen? ⟨w.heap.size + 1, j, none⟩ = false := fun j => (hb4.frozen (show w.heap.size + 1 < w3.heap.size by omega)).trans (e30 j)
    have hh1' : w3.heap.size ≤ g2 := hh1
    have hgg : g ≠ g2 := by omega
    obtain ⟨w5, hw5⟩ : ∃ w5, w5 = w4.setCell ⟨g, i, none⟩ (.slice (some ⟨g2, 0, none⟩) lr cg2) := ⟨_, rfl⟩
    rw [← hw5]
    have oth : ∀ (b j : Nat), b ≠ g → w5.cell? ⟨b, j, none⟩ = w4.cell? ⟨b, j, none⟩ := fun b j hb => by
      rw [hw5]; exact World.cell?_setCell_other _ _ _ _ (fun e => hb (congrArg Addr.block e).symm)
    have othf : ∀ (b j : Nat), b ≠ g → w5.frozen? ⟨b, j, none⟩ = w4.frozen? ⟨b, j, none⟩ := fun b j hb => by
      rw [hw5]; exact World.frozen?_of_block (w := w4) (Below.heap_setCell _ _ _ _ hb)
    have q50 := (oth w.heap.size 0 hgne).trans q0
    have q51 := (oth w.heap.size 1 hgne).trans k1
    have r50 := (oth (w.heap.size + 1) 0 (by omega)).trans r0
    have r51 := (oth (w.heap.size + 1) 1 (by omega)).trans r1
    have r52 : w5.frozen? ⟨w.heap.size + 1, 0, none⟩ = false := (othf (w.heap.size + 1) 0 (by omega)).trans (r2 0)
    have r53 : w5.frozen? ⟨w.heap.size + 1, 1, none⟩ = false := (othf (w.heap.size + 1) 1 (by omega)).trans (r2 1)
    have g5i : w5.cell? ⟨g, i, none⟩ = some (.slice (some ⟨g2, 0, none⟩) lr cg2) := by rw [hw5]; exact World.cell?_setCell_same _ _ _ k2
    have g5j : ∀ j u, us[j]? = some u → j ≠ i → w5.cell? ⟨g, j, none⟩ = some u := fun j u hj hne => by
      rw [hw5]
      exact ((World.cell?_setCell_other _ _ _ _ (fun e => hne (congrArg Addr.off e).symm)).trans (hb4.cell (show g < w3.heap.size from hg3'))).trans (c3g j u hj)
    have h5j : ∀ j u, rw_[j]? = some u → w5.cell? ⟨g2, j, none⟩ = some u := fun j u hj => (oth g2 j (Ne.symm hgg)).trans (by simp [World.cell?, hh2]; exact hh5 j u hj)
    have h5f : ∀ j, w5.frozen? ⟨g2, j, none⟩ = false := fun j => (othf g2 j (Ne.symm hgg)).trans (by simp [World.frozen?, hh2])
    have hg2lt : g2 < w5.heap.size := by rw [hw5]; have := (Array.getElem?_eq_some_iff.1 hh2).1; simpa [World.setCell] using this
    have hglt : g < w5.heap.size := by rw [hw5]; simp [World.setCell]; omega
    have hbw5 : Below w.heap.size w w5 := by
      have hb4' : Below w3.heap.size w3 w4 := ⟨hb4.os, hb4.tape, hb4.output, hb4.size, hb4.block⟩
      rw [hw5]; exact (hbw3.trans (hb4'.mono (show w.heap.size ≤ w3.heap.size by omega))).setCell (show w.heap.size ≤ g by omega) _
    obtain ⟨si, hsi⟩ : ∃ si : Nat, s = (si : Int) := ⟨s.toNat, by omega⟩
    have hsit : s.toNat = si := by omega
    subst hsi
    have hsl : si < rw_.length := by omega
    have h5s := h5j si rw_[si] (List.getElem?_eq_getElem hsl)
    have h5fs := h5f si
    have hBg : w.heap.size ≤ g := by omega
    have hBg2 : w.heap.size ≤ g2 := by omega
    have hgB : g ≠ w.heap.size + 1 := by omega
    have hg2B : g2 ≠ w.heap.size + 1 := by omega
    clear hw5 hb4 hh2 hh5 hbw3 c3g past3 past3d e30 r2
    go_wp2_with fail
    obtain ⟨z0, z1, zg, zi, z2, zs, zb, zg1, zg2⟩ := put_out w5 w w.heap.size g g2 i si len cg lr cg2 n v (.slice none 0 0) (.int .i64 0) rw_[si] us rw_ hgB hg2B hgg hBg hBg2 (Nat.le_refl _) hbw5 r50 r51 g5i g5j h5j h5s hglt hg2lt _ rfl
    have fin : R _ _ := hR _ g cg g2 cg2 zb hBg zg1 hBg2 zg2 hg3 hh3 (by rw [hit]; exact zg) (by rw [hit]; exact zi) (by rw [hsit]; exact z2) (by rw [hsit]; exact zs)
    clear hR
    refine bodyPost_ret (v := .tuple #[.agg #[.int .i64 n, .slice (some ⟨g, 0, none⟩) len cg], .bool true]) ?_ rfl fin
    simp [results, Tryd.results10, go_sem, z0, z1]
end Go.Nx
end
section
set_option linter.unusedVariables false
namespace Go.Nx
open Go.RowKit
open Classical

def putH (L : List (List Int)) (o s v : Int) : List (List Int) := L.set (o - 1).toNat ((row L o).set s.toNat v)
theorem row_put {L : List (List Int)} {o s v p : Int} (ho : 1 ≤ o ∧ o ≤ L.length) (hp : 1 ≤ p) : row (putH L o s v) p = if p = o then (row L o).set s.toNat v else row L p := by
  have e1 : row (putH L o s v) p = (L.set (o - 1).toNat ((row L o).set s.toNat v))[(p - 1).toNat]?.getD [] := rfl
  rw [e1, List.getElem?_set]
  by_cases e : p = o
  · subst e
    rw [if_pos rfl, if_pos (by omega), if_pos rfl]; rfl
  · rw [if_neg (by omega), if_neg e]; rfl
theorem own_put {L : List (List Int)} {o s v : Int} : own (putH L o s v) = own L := by unfold own putH; rw [List.length_set]
theorem edge_put_sub {L : List (List Int)} {o s p v : Int} (ho : 1 ≤ o ∧ o ≤ L.length) (hp : 1 ≤ p) (h : edge (putH L o s 0) p v) : edge L p v := by
  obtain ⟨h1, h2⟩ := h
  rw [own_put] at h2
  rw [row_put ho hp] at h1
  refine ⟨?_, h2⟩
  split at h1
  · rename_i e; subst e
    rcases List.mem_or_eq_of_mem_set h1 with h | rfl
    · exact h
    · have := has_range h2; omega
  · exact h1
theorem edge_put_keep {L : List (List Int)} {o s p u : Int} (ho : 1 ≤ o ∧ o ≤ L.length) (hs : 0 ≤ s ∧ s < (row L o).length) (hp : 1 ≤ p) (h : edge L p u) (hne : p = o → u ≠ at0 (row L o) s) : edge (putH L o s 0) p u := by
  obtain ⟨h1, h2⟩ := h
  refine ⟨?_, by rw [own_put]; exact h2⟩
  rw [row_put ho hp]
  split
  · rename_i e
    have hn := hne e
    subst e
    obtain ⟨j, hj⟩ := List.mem_iff_getElem?.1 h1
    have hjs : s.toNat ≠ j := fun e => hn (by unfold at0; rw [e, hj]; rfl)
    have := List.getElem?_set_ne hjs (a := (0 : Int)) (l := row L p)
    exact List.mem_of_getElem? (this.trans hj)
  · exact h1
theorem rch_cut_sub {L : List (List Int)} {op : Int → Bool} {S : B} {o s u : Int} (ho : 1 ≤ o ∧ o ≤ L.length) (h : Rch (putH L o s 0) op S u) : Rch L op S u :=
  rch_ind (Q := Rch L op S) (fun v h1 h2 => rch_root h1 (by rw [own_put] at h2; exact h2)) (fun p v h1 h2 h3 h4 => rch_step h2 h3 (edge_put_sub ho (has_range (rch_own h1)).1 h4)) h
theorem rch_cut_keep {L : List (List Int)} {op : Int → Bool} {S : B} {o s u : Int} (ho : 1 ≤ o ∧ o ≤ L.length) (hs : 0 ≤ s ∧ s < (row L o).length)
    (hk : Rch L op S o → has (own L) (at0 (row L o) s) = true → Rch (putH L o s 0) op S (at0 (row L o) s)) (h : Rch L op S u) : Rch (putH L o s 0) op S u :=
  rch_ind (Q := Rch (putH L o s 0) op S) (fun v h1 h2 => rch_root h1 (by rw [own_put]; exact h2)) (fun p v h1 h2 h3 h4 => by
    by_cases e : p = o ∧ v = at0 (row L o) s
    · obtain ⟨rfl, rfl⟩ := e
      exact hk h1 h4.2
    · exact rch_step h2 h3 (edge_put_keep ho hs (has_range (rch_own h1)).1 h4 fun e1 e2 => e ⟨e1, e2⟩)) h
theorem cut_same {L : List (List Int)} {op : Int → Bool} {S : B} {o s : Int} (ho : 1 ≤ o ∧ o ≤ L.length) (hs : 0 ≤ s ∧ s < (row L o).length) (h : has (rchB L op S) o = false ∨ at0 (row L o) s = 0) : rchB (putH L o s 0) op S = rchB L op S := by
  apply ext_has
  intro v _ _
  rw [Bool.eq_iff_iff, has_rchB, has_rchB]
  refine ⟨rch_cut_sub ho, rch_cut_keep ho hs fun h1 h2 => ?_⟩
  exfalso
  rcases h with h | h
  · rw [← has_rchB, h] at h1; cases h1
  · rw [h] at h2; have := has_range h2; omega
theorem cut_under {L : List (List Int)} {op : Int → Bool} {S : B} {o s : Int} (ho : 1 ≤ o ∧ o ≤ L.length) : under (rchB (putH L o s 0) op S) (rchB L op S) = true := by
  rw [under_iff]; intro v hv; rw [has_rchB] at hv ⊢; exact rch_cut_sub ho hv
theorem cut_iff {L : List (List Int)} {op : Int → Bool} {S : B} {o s : Int} (ho : 1 ≤ o ∧ o ≤ L.length) (hs : 0 ≤ s ∧ s < (row L o).length) (hop : op o = true) (hr : has (rchB L op S) o = true) (hv : has (own L) (at0 (row L o) s) = true) :
    rchB (putH L o s 0) op S = rchB L op S ↔ has (rchB (putH L o s 0) op S) (at0 (row L o) s) = true := by
  constructor
  · intro e
    rw [e, has_rchB]
    rw [has_rchB] at hr
    exact rch_step hr hop ⟨at0_mem (by omega), hv⟩
  · intro h
    rw [has_rchB] at h
    apply ext_has
    intro v _ _
    rw [Bool.eq_iff_iff, has_rchB, has_rchB]
    exact ⟨rch_cut_sub ho, rch_cut_keep ho hs fun _ _ => h⟩
end Go.Nx
end
section
set_option linter.unusedVariables false
set_option linter.unusedSimpArgs false
set_option maxRecDepth 20000
set_option maxHeartbeats 4000000
namespace Go.Nx
open Go Go.RowKit Go.Proofs

noncomputable def lE13 : List (Nat × (List T → Ans)) := (7, c7) :: (9, c9) :: lE12
noncomputable def iE13 : List (Nat × Pt) := iE12
noncomputable abbrev E13 : Env := En tgl lE13 iE13
theorem env_E13 : EnvOk Tryd.prog E13 := (env_fn (env_fn env_E12 (fun _ _ => got9) (fun vs p d sz xs h _ => (nogl9 vs p d sz xs h).elim) pk9) (fun _ _ => got7) (fun vs p d sz xs h _ => (nogl7 vs p d sz xs h).elim) pk7)
theorem list_in {S : Cells} {w : World} {xs : List T} {v : Value} (h : RelT S w (.list 1 xs) v) (hne : xs ≠ []) (h1 : ∀ x ∈ xs, x.cells = [x]) :
    ∃ (b o cap : Nat) (us : List Value), v = .slice (some ⟨b, o, none⟩) xs.length cap ∧ us.length = xs.length ∧ xs.length ≤ cap ∧ (∀ (j : Nat) (u : Value), us[j]? = some u → S b (o + j) ∧ w.cell? ⟨b, o + j, none⟩ = some u) ∧ ∀ (j : Nat) (x : T) (u : Value), xs[j]? = some x → us[j]? = some u → RelT S w x u := by
  cases h with
  | list sz xs a cap u hcap ha hsz hr =>
    obtain ⟨b, o, rfl, hc⟩ := ha hne
    refine ⟨b, o, cap, (List.range xs.length).map (fun i => u i 0), rfl, by simp, hcap, fun j x hj => ?_, fun j x y hx hy => ?_⟩
    · have hlt : j < xs.length := by have := (List.getElem?_eq_some_iff.1 hj).1; simpa using this
      rw [List.getElem?_map, List.getElem?_range hlt] at hj
      simp only [Option.map_some, Option.some.injEq] at hj
      subst hj
      have := hc j 0 hlt (by omega)
      simpa using this
    · have hlt : j < xs.length := (List.getElem?_eq_some_iff.1 hx).1
      rw [List.getElem?_map, List.getElem?_range hlt] at hy
      simp only [Option.map_some, Option.some.injEq] at hy
      subst hy
      exact hr j x hx 0 x (by rw [h1 x (List.mem_of_getElem? hx)]; rfl)
theorem list_out {S : Cells} {w : World} {xs : List T} {g cap : Nat} (us : Nat → Value) (hcap : xs.length ≤ cap) (hc : ∀ j, j < xs.length → S g j ∧ w.cell? ⟨g, j, none⟩ = some (us j)) (h1 : ∀ x ∈ xs, x.cells = [x] ∧ x.one = true)
    (hr : ∀ j x, xs[j]? = some x → RelT S w x (us j)) : RelT S w (.list 1 xs) (.slice (some ⟨g, 0, none⟩) xs.length cap) := by
  refine .list 1 xs _ cap (fun i _ => us i) hcap (fun _ => ⟨g, 0, rfl, fun i j hi hj => ?_⟩) (fun x hx => ⟨by rw [(h1 x hx).1]; rfl, fun c hc' => ?_⟩) (fun i x hx j c hc' => ?_)
  · have e : j = 0 := by omega
    subst e
    simpa using hc i hi
  · rw [(h1 x hx).1, List.mem_singleton] at hc'; subst hc'; exact (h1 _ hx).2
  · rw [(h1 x (List.mem_of_getElem? hx)).1] at hc'
    match j with
    | 0 => simp at hc'; subst hc'; exact hr i x hx
    | j + 1 => simp at hc'
theorem rs_cells (L : List (List Int)) : ∀ x ∈ rs L, x.cells = [x] ∧ x.one = true := fun x hx => by
  obtain ⟨l, _, rfl⟩ := List.mem_map.1 hx
  exact ⟨rfl, rfl⟩
theorem is_cells (l : List Int) : ∀ x ∈ is l, x.cells = [x] ∧ x.one = true := fun x hx => by
  obtain ⟨n, _, rfl⟩ := List.mem_map.1 hx
  exact ⟨rfl, rfl⟩
def IsH (xs : List T) : Prop := ∃ L, xs = rs L ∧ L.length ≤ 1048576 ∧ ∀ l ∈ L, l.length ≤ 1048576 ∧ ∀ n ∈ l, I64 n
theorem IsH.r {xs : List T} (h : IsH xs) : IsR xs := by
  obtain ⟨L, rfl, h1, h2⟩ := h
  refine ⟨L, rfl, by omega, fun l hl => ⟨isI_is (h2 l hl).2, ?_⟩⟩
  unfold Sz maxBytes
  have := (h2 l hl).1
  rw [is_len]; omega
theorem thereB_iff {L : List (List Int)} {o s : Int} : thereB L o s = true ↔ 1 ≤ o ∧ o ≤ L.length ∧ 0 ≤ s ∧ s < (row L o).length := by unfold thereB; rw [decide_eq_true_eq]
def hPutOk (L : List (List Int)) (o s v : Int) : Bool := thereB L o s && (decide (0 ≤ v) && decide (v ≤ L.length))
def hPut (n : Int) (L : List (List Int)) (o s v : Int) : T := if hPutOk L o s v then .tup [.agg [.int .i64 n, .list 1 (rs (putH L o s v))], .bool true] else .tup [.agg [.int .i64 n, .list 1 (rs L)], .bool false]
theorem rs_set (L : List (List Int)) (o s v : Int) : rs (putH L o s v) = (rs L).set (o - 1).toNat (.list 1 ((is (row L o)).set s.toNat (.int .i64 v))) := by
  unfold rs putH is
  rw [List.map_set, List.map_set]
theorem glOk_keep {gl : Gl} {S : Cells} {w w' : World} (hS : ∀ b o, S b o → b < w.heap.size) (h : ∀ b o, b < w.heap.size → w'.cell? ⟨b, o, none⟩ = w.cell? ⟨b, o, none⟩) (hg : GlOk gl S w) : GlOk gl S w' := fun g cs e i c hc => by
  obtain ⟨h1, u, h2, h3⟩ := hg g cs e i c hc
  exact ⟨h1, u, (h _ _ (hS _ _ h1)).trans h2, h3.mono (fun _ _ h => h) (fun b o hb => h _ _ (hS _ _ hb))⟩
theorem put_yes (n o s v : Int) (L : List (List Int)) (hl : L.length ≤ 1048576) (hL : ∀ l ∈ L, l.length ≤ 1048576 ∧ ∀ n ∈ l, I64 n) (hq : I64 o ∧ I64 s ∧ I64 v) (hh : hPutOk L o s v = true) (he : Enter Tryd.prog 10) :
    FnOk Tryd.prog tgl 10 [.agg [.int .i64 n, .list 1 (rs L)], .int .i64 o, .int .i64 s, .int .i64 v] (.tup [.agg [.int .i64 n, .list 1 (rs (putH L o s v))], .bool true]) := by
  refine ⟨he, fun S w args hS hgl hn ha => ?_⟩
  unfold hPutOk at hh
  simp only [Bool.and_eq_true, decide_eq_true_eq] at hh
  obtain ⟨hth, hv0, hv1⟩ := hh
  obtain ⟨t1, t2, t3, t4⟩ := thereB_iff.1 hth
  have hn4 : args.size = 4 := hn
  obtain ⟨a0, a1, a2, a3, rfl⟩ : ∃ a0 a1 a2 a3, args = #[a0, a1, a2, a3] := by
    obtain ⟨l⟩ := args
    match l, hn4 with
    | [a, b, c, d], _ => exact ⟨a, b, c, d, rfl⟩
  have r0 := ha 0 _ a0 rfl rfl
  have r1 := (ha 1 _ a1 rfl rfl).int_of
  have r2 := (ha 2 _ a2 rfl rfl).int_of
  have r3 := (ha 3 _ a3 rfl rfl).int_of
  subst r1 r2 r3
  obtain ⟨arr, rfl, hsz, hin⟩ := r0.agg_of
  have hsz2 : arr.size = 2 := hsz
  obtain ⟨c0, c1, rfl⟩ : ∃ c0 c1, arr = #[c0, c1] := by
    obtain ⟨l⟩ := arr
    match l, hsz2 with
    | [a, b], _ => exact ⟨a, b, rfl⟩
  have q0 := (hin 0 _ c0 rfl rfl).int_of
  have q1 := hin 1 _ c1 rfl rfl
  subst q0
  have hne : rs L ≠ [] := fun e => by have := congrArg List.length e; rw [rs_len] at this; simp at this; rw [this] at t2; simp at t2; omega
  obtain ⟨b0, o0, cap, us, rfl, hul, hcap, hus, hur⟩ := list_in q1 hne (fun x hx => (rs_cells L x hx).1)
  rw [rs_len] at hul hcap
  have hoL : (o - 1).toNat < L.length := by omega
  have erow : L[(o - 1).toNat]? = some (row L o) := by unfold row; rw [List.getElem?_eq_getElem hoL]; rfl
  have hx : (rs L)[(o - 1).toNat]? = some (.list 1 (is (row L o))) := by unfold rs; rw [List.getElem?_map, erow]; rfl
  have hu : us[(o - 1).toNat]? = some (us[(o - 1).toNat]'(by omega)) := List.getElem?_eq_getElem _
  have hrow := hur _ _ _ hx hu
  have hrm : row L o ∈ L := row_mem t1 t2
  have hne2 : is (row L o) ≠ [] := fun e => by have := congrArg List.length e; rw [is_len] at this; simp at this; rw [this] at t4; simp at t4; omega
  obtain ⟨br, or_, cr, rw_, ev, hrl, hrc, hrw, hrr⟩ := list_in hrow hne2 (fun x hx => (is_cells _ x hx).1)
  rw [is_len] at hrl hrc ev
  rw [ev] at hu
  rw [rs_len]
  refine put_calls n o s v b0 o0 cap L.length br or_ (row L o).length cr w _ us rw_ ?_ hul hcap hl (fun j u hj => (hus j u hj).2) ?_ ⟨t1, t2⟩ hu ?_ hrl (hL _ hrm).1 (fun j u hj => (hrw j u hj).2) ?_ ⟨t3, t4⟩ ⟨hv0, hv1⟩ ?_ ?_
  · exact hS _ _ (hus _ _ hu).1
  · intro u hu'
    obtain ⟨j, hj, rfl⟩ := List.mem_iff_getElem.1 hu'
    have hj' : j < (rs L).length := by rw [rs_len]; omega
    have := hur j _ _ (List.getElem?_eq_getElem hj') (List.getElem?_eq_getElem hj)
    have hc := (rs_cells L _ (List.getElem_mem hj')).2
    generalize (rs L)[j] = x at this hc
    generalize us[j] = y at this ⊢
    cases this <;> first | rfl | cases hc
  · exact hS _ _ (hrw 0 _ (List.getElem?_eq_getElem (by omega))).1
  · intro u hu'
    obtain ⟨j, hj, rfl⟩ := List.mem_iff_getElem.1 hu'
    have hj' : j < (is (row L o)).length := by rw [is_len]; omega
    have := hrr j _ _ (List.getElem?_eq_getElem hj') (List.getElem?_eq_getElem hj)
    have hc := (is_cells _ _ (List.getElem_mem hj')).2
    generalize (is (row L o))[j] = x at this hc
    generalize rw_[j] = y at this ⊢
    cases this <;> first | rfl | cases hc
  · have hcl : ∀ b j, b < w.heap.size → ((w.alloc (.cells #[.int .i64 n, .slice (some ⟨b0, o0, none⟩) L.length cap] 24)).alloc (.cells #[.int .i64 0, .slice none 0 0] 24)).cell? ⟨b, j, none⟩ = w.cell? ⟨b, j, none⟩ := fun b j hb =>
      (World.cell?_alloc_past _ _ _ (by simp; omega)).trans (World.cell?_alloc_past _ _ _ hb)
    have hk := (ok40 n (rs L) o s (IsH.r ⟨L, rfl, hl, hL⟩)).2 S _ #[.agg #[.int .i64 n, .slice (some ⟨b0, o0, none⟩) L.length cap], .int .i64 o, .int .i64 s] (fun b j hb => by have := hS b j hb; simp; omega) (glOk_keep hS hcl hgl) rfl (fun i c u hc hu => ?_)
    · refine hk.mono ?_
      rintro e w' ⟨u, rfl, hr, hb⟩
      rw [rowsOf_rs, hth] at hr
      have := hr.bool_of
      subst this
      exact ⟨rfl, by simpa using hb⟩
    · have hm : ∀ x u, RelT S w x u → RelT S ((w.alloc (.cells #[.int .i64 n, .slice (some ⟨b0, o0, none⟩) L.length cap] 24)).alloc (.cells #[.int .i64 0, .slice none 0 0] 24)) x u := fun x u h => h.mono (fun _ _ h => h) (fun b j hb => hcl b j (hS _ _ hb))
      match i with
      | 0 =>
        simp at hc hu; subst hc hu
        have := hm _ _ (ha 0 _ _ rfl rfl)
        rw [rs_len] at this
        exact this
      | 1 => simp at hc hu; subst hc hu; exact .int _ _
      | 2 => simp at hc hu; subst hc hu; exact .int _ _
      | i + 3 => simp at hc
  · intro w' g cg g2 cg2 hb hg hg' hg2 hg2' hcg hcg2 hc1 hc2 hc3 hc4
    refine ⟨_, rfl, ?_, hb⟩
    have keep : ∀ x u, RelT S w x u → RelT (fresh S w w') w' x u := fun x u h => h.mono (fun _ _ h => Or.inl h) (fun b j hb' => hb.cell (hS _ _ hb'))
    have Rrow : RelT (fresh S w w') w' (.list 1 ((is (row L o)).set s.toNat (.int .i64 v))) (.slice (some ⟨g2, 0, none⟩) (row L o).length cg2) := by
      have hlen : ((is (row L o)).set s.toNat (.int .i64 v)).length = (row L o).length := by rw [List.length_set, is_len]
      have := list_out (S := fresh S w w') (w := w') (xs := (is (row L o)).set s.toNat (.int .i64 v)) (g := g2) (cap := cg2) (fun j => if j = s.toNat then .int .i64 v else rw_.getD j (.bool false)) (by rw [hlen]; exact hcg2) (fun j hj => ⟨.inr ⟨hg2, hg2'⟩, ?_⟩) (fun x hx => ?_) (fun j x hx => ?_)
      · rw [hlen] at this; exact this
      · rw [hlen] at hj
        by_cases e : j = s.toNat
        · rw [if_pos e, e]; exact hc4
        · rw [if_neg e]
          have hj2 : j < rw_.length := by omega
          rw [List.getD_eq_getElem?_getD, List.getElem?_eq_getElem hj2]
          exact hc3 j _ (List.getElem?_eq_getElem hj2) e
      · rcases List.mem_or_eq_of_mem_set hx with h | rfl
        · exact is_cells _ _ h
        · exact ⟨rfl, rfl⟩
      · by_cases e : j = s.toNat
        · rw [if_pos e]; subst e
          rw [List.getElem?_set_self (by rw [is_len]; omega)] at hx
          injection hx with hx; subst hx; exact .int _ _
        · rw [if_neg e]
          rw [List.getElem?_set_ne (Ne.symm e)] at hx
          have hj2 : j < rw_.length := by have := (List.getElem?_eq_some_iff.1 hx).1; rw [is_len] at this; omega
          rw [List.getD_eq_getElem?_getD, List.getElem?_eq_getElem hj2]
          exact keep _ _ (hrr j x _ hx (List.getElem?_eq_getElem hj2))
    have Rall : RelT (fresh S w w') w' (.list 1 (rs (putH L o s v))) (.slice (some ⟨g, 0, none⟩) L.length cg) := by
      have hlen : (rs (putH L o s v)).length = L.length := by rw [rs_len]; unfold putH; rw [List.length_set]
      have := list_out (S := fresh S w w') (w := w') (xs := rs (putH L o s v)) (g := g) (cap := cg) (fun j => if j = (o - 1).toNat then .slice (some ⟨g2, 0, none⟩) (row L o).length cg2 else us.getD j (.bool false)) (by rw [hlen]; exact hcg) (fun j hj => ⟨.inr ⟨hg, hg'⟩, ?_⟩) (rs_cells _) (fun j x hx => ?_)
      · rw [hlen] at this; exact this
      · rw [hlen] at hj
        by_cases e : j = (o - 1).toNat
        · rw [if_pos e, e]; exact hc2
        · rw [if_neg e]
          have hj2 : j < us.length := by omega
          rw [List.getD_eq_getElem?_getD, List.getElem?_eq_getElem hj2]
          exact hc1 j _ (List.getElem?_eq_getElem hj2) e
      · rw [rs_set] at hx
        by_cases e : j = (o - 1).toNat
        · rw [if_pos e]; subst e
          rw [List.getElem?_set_self (by rw [rs_len]; omega)] at hx
          injection hx with hx; subst hx; exact Rrow
        · rw [if_neg e]
          rw [List.getElem?_set_ne (Ne.symm e)] at hx
          have hj2 : j < us.length := by have := (List.getElem?_eq_some_iff.1 hx).1; rw [rs_len] at this; omega
          rw [List.getD_eq_getElem?_getD, List.getElem?_eq_getElem hj2]
          exact keep _ _ (hur j x _ hx (List.getElem?_eq_getElem hj2))
    refine .tup _ _ rfl fun i c u hc hu => ?_
    match i with
    | 0 =>
      simp at hc hu; subst hc hu
      refine .agg _ _ rfl fun i c u hc hu => ?_
      match i with
      | 0 => simp at hc hu; subst hc hu; exact .int _ _
      | 1 => simp at hc hu; subst hc hu; exact Rall
      | i + 2 => simp at hc
    | 1 => simp at hc hu; subst hc hu; exact .bool _
    | i + 2 => simp at hc
theorem put_no (n o s v : Int) (L : List (List Int)) (hl : L.length ≤ 1048576) (hL : ∀ l ∈ L, l.length ≤ 1048576 ∧ ∀ n ∈ l, I64 n) (hq : I64 o ∧ I64 s ∧ I64 v) (hh : hPutOk L o s v = false) :
    FnOk Tryd.prog tgl 10 [.agg [.int .i64 n, .list 1 (rs L)], .int .i64 o, .int .i64 s, .int .i64 v] (.tup [.agg [.int .i64 n, .list 1 (rs L)], .bool false]) := by
  refine fn_ok (Γ := E13) env_E13 Tryd.func10 low10 ?_
  have hq1 : IsR (rs L) := IsH.r ⟨L, rfl, hl, hL⟩
  have hc : ∀ (a : thereB L o s = true) (b : 0 ≤ v), v ≤ L.length → False := fun a b c => by
    unfold hPutOk at hh
    rw [a, decide_eq_true b, decide_eq_true c] at hh; cases hh
  conv => whnf
  repeat' (first
    | (refine brK_true rfl ?_; conv => whnf)
    | (refine brK_false rfl ?_; conv => whnf)
    | (refine brK_true (by assumption) ?_; conv => whnf)
    | (refine brK_false (by assumption) ?_; conv => whnf)
    | (refine brK_true ?_ ?_; (focus (simp only [List.length_nil, fx, rs_len, rowsOf_rs] <;> omega)); conv => whnf)
    | (refine brK_false ?_ ?_; (focus (simp only [List.length_nil, fx, rs_len, rowsOf_rs] <;> omega)); conv => whnf)
    | ((refine brK_of (fun h => ?_) (fun h => ?_)) <;> (have h2 := h; (try simp only [List.length_nil, fx, rs_len, rowsOf_rs] at h2); conv => whnf))
    | (refine reqK_of ?_ ?_; (focus (first | decide | omega | assumption | (simp only [List.length_nil, fx, rs_len, rowsOf_rs] <;> omega) | (simp [keyNew, sameKey, kEq] <;> omega))); conv => whnf)
    | (refine reqK_of ?_ ?_; rotate_left; (conv => whnf); rotate_left)
    | (refine nth_us ?_ ?_ ?_; (focus (first | omega | (simp only [List.length_nil, fx, rs_len, rowsOf_rs] <;> omega))); (focus (first | omega | (simp only [List.length_nil, fx, rs_len, rowsOf_rs] <;> omega))); conv => whnf)
    | (refine nth_is ?_ ?_ ?_; (focus (first | omega | (simp only [List.length_nil, fx, rs_len, rowsOf_rs] <;> omega))); (focus (first | omega | (simp only [List.length_nil, fx, rs_len, rowsOf_rs] <;> omega))); conv => whnf)
    | (refine nth_bs ?_ ?_ ?_; (focus (first | omega | (simp only [List.length_nil, fx, rs_len, rowsOf_rs] <;> omega))); (focus (first | omega | (simp only [List.length_nil, fx, rs_len, rowsOf_rs] <;> omega))); conv => whnf))
  all_goals (refine hc ?_ ?_ ?_ <;> assumption)
theorem ok10 (n o s v : Int) (xs : List T) (hq : IsH xs ∧ I64 o ∧ I64 s ∧ I64 v) : FnOk Tryd.prog tgl 10 [.agg [.int .i64 n, .list 1 xs], .int .i64 o, .int .i64 s, .int .i64 v] (hPut n (rowsOf xs) o s v) := by
  obtain ⟨⟨L, rfl, hl, hL⟩, hq⟩ := hq
  rw [rowsOf_rs]
  unfold hPut
  cases hh : hPutOk L o s v
  · rw [if_neg (by decide)]; exact put_no n o s v L hl hL hq hh
  · rw [if_pos rfl]; exact put_yes n o s v L hl hL hq hh (put_no 0 0 0 0 [] (by decide) (fun l h => by cases h) ⟨⟨by decide, by decide⟩, ⟨by decide, by decide⟩, ⟨by decide, by decide⟩⟩ rfl).1
open Classical in
noncomputable def c10 : List T → Ans
  | [.agg [.int .i64 n, .list 1 xs], .int .i64 o, .int .i64 s, .int .i64 v] => .req (IsH xs ∧ I64 o ∧ I64 s ∧ I64 v) (hPut n (rowsOf xs) o s v)
  | _ => .no
theorem got10 {vs : List T} {x : T} (h : Got (c10 vs) x) : FnOk Tryd.prog tgl 10 vs x := by
  unfold c10 at h
  split at h
  · obtain ⟨hq, e⟩ := got_req h; rw [e]; exact ok10 _ _ _ _ _ hq
  · exact (got_no h).elim
theorem nogl10 (vs : List T) (p : Prop) (d : Decidable p) (sz : Nat) (xs : List T) (h : c10 vs = @Ans.gl p d sz xs) : False := by
  unfold c10 at h
  split at h <;> cases h
theorem pk10 (vs : List T) (p : Prop) (d : Decidable p) (x : T) (h : c10 vs = @Ans.pk p d x) (hp : p) : FnOk Tryd.prog tgl 10 vs x := by
  unfold c10 at h
  split at h
  · cases h
  · cases h
end Go.Nx
end
section
set_option linter.unusedVariables false
set_option linter.unusedSimpArgs false
set_option maxRecDepth 20000
set_option maxHeartbeats 4000000
namespace Go.Nx
open Go.RowKit Go.Proofs

noncomputable def lE14 : List (Nat × (List T → Ans)) := (10, c10) :: lE13
noncomputable def iE14 : List (Nat × Pt) := iE13
noncomputable abbrev E14 : Env := En tgl lE14 iE14
theorem env_E14 : EnvOk Tryd.prog E14 := (env_fn env_E13 (fun _ _ => got10) (fun vs p d sz xs h _ => (nogl10 vs p d sz xs h).elim) pk10)
theorem rightB_of {sl : Int} {L : List (List Int)} (h : rightB sl L = true) : 1 ≤ sl ∧ sl ≤ 4 ∧ L.length ≤ 64 ∧ ∀ o : Int, 1 ≤ o → o ≤ L.length → ((row L o).length : Int) = sl ∧ ∀ v ∈ row L o, 0 ≤ v ∧ v ≤ L.length := by
  unfold rightB at h
  rw [Bool.and_eq_true, decide_eq_true_eq, Bool.not_eq_true'] at h
  refine ⟨h.1.1, h.1.2.1, h.1.2.2, fun o h1 h2 => ?_⟩
  have := List.any_eq_false.1 h.2 _ (row_mem h1 h2)
  unfold oddR at this
  simp only [Bool.or_eq_true, decide_eq_true_eq, not_or, Decidable.not_not, ne_eq] at this
  refine ⟨this.1, fun v hv => ?_⟩
  have h3 : ¬ (row L o).any (badV L.length) = true := this.2
  rw [Bool.not_eq_true] at h3
  have h4 := List.any_eq_false.1 h3 v hv
  unfold badV at h4
  simp only [Bool.or_eq_true, decide_eq_true_eq, not_or] at h4
  omega
theorem u8_rem {n m : Int} (h : R8 n) (h0 : 0 < m) (h1 : m ≤ 255) : n.tmod m = n % m ∧ 0 ≤ n % m ∧ n % m < m ∧ IntKind.i64.wrap (n % m) = n % m := by
  unfold R8 at h
  have a := Int.emod_nonneg n (show m ≠ 0 by omega)
  have b := Int.emod_lt_of_pos n h0
  exact ⟨Int.tmod_eq_emod_of_nonneg h.1, a, b, wrap_i64 ⟨by omega, by omega⟩⟩
theorem isH_put {L : List (List Int)} {o s : Int} (hl : L.length ≤ 1048576) (hL : ∀ l ∈ L, l.length ≤ 1048576 ∧ ∀ n ∈ l, I64 n) (ho : 1 ≤ o ∧ o ≤ L.length) : IsH (rs (putH L o s 0)) := by
  refine ⟨_, rfl, by unfold putH; rw [List.length_set]; exact hl, fun l h => ?_⟩
  have hr := hL _ (row_mem ho.1 ho.2)
  rcases List.mem_or_eq_of_mem_set h with h | rfl
  · exact hL l h
  · rw [List.length_set]
    refine ⟨hr.1, fun n hn => ?_⟩
    rcases List.mem_or_eq_of_mem_set hn with h | rfl
    · exact hr.2 n h
    · exact ⟨by decide, by decide⟩
theorem ok3 (sl : Int) (xs : List T) (s o k : Int) (hq : (IsH xs ∧ R64 s) ∧ R8 o ∧ R8 k) : FnOk Tryd.prog tgl 3 [.agg [.int .i64 sl, .list 1 xs], .int .u64 s, .int .u8 o, .int .u8 k] (.bool true) := by
  refine fn_ok (Γ := E14) env_E14 Tryd.func3 low3 ?_
  have hqR := hq.1.1.r
  obtain ⟨⟨⟨L, rfl, hl, hL⟩, hs⟩, ho8, hk8⟩ := hq
  have hH : IsH (rs L) := ⟨L, rfl, hl, hL⟩
  have hq2 : IsR (rs L) ∧ R64 s := ⟨hqR, hs⟩
  obtain ⟨o1, o2, o3, o4⟩ := u8_rem ho8 (m := 8) (by decide) (by decide)
  obtain ⟨k1, k2, k3, k4⟩ := u8_rem hk8 (m := 4) (by decide) (by decide)
  obtain ⟨a, hae⟩ : ∃ a, a = o % 8 + 1 := ⟨_, rfl⟩
  obtain ⟨b, hbe⟩ : ∃ b, b = k % 4 := ⟨_, rfl⟩
  have ha : IntKind.i64.wrap (IntKind.i64.wrap (o.tmod 8) + 1) = a := by rw [o1, o4, hae]; exact wrap_i64 ⟨by omega, by omega⟩
  have hb : IntKind.i64.wrap (k.tmod 4) = b := by rw [k1, k4, hbe]
  have hq3 : I64 a ∧ I64 b ∧ I64 0 := ⟨⟨by omega, by omega⟩, ⟨by omega, by omega⟩, ⟨by decide, by decide⟩⟩
  have z0 : eqI 0 0 = true := by rw [eqI_def]; rfl
  by_cases hr : rightB sl L = true
  · obtain ⟨hr1, hr2, hr3, hr4⟩ := rightB_of hr
    obtain ⟨S, hS⟩ : ∃ S, S = rchB L (fun _ => true) (bv s) := ⟨_, rfl⟩
    cases hth : thereB L a b with
    | false =>
      have hp : hPut sl L a b 0 = .tup [.agg [.int .i64 sl, .list 1 (rs L)], .bool false] := by unfold hPut hPutOk; rw [hth]; rfl
      conv => whnf
      repeat' (first
        | (refine brK_true rfl ?_; conv => whnf)
        | (refine brK_false rfl ?_; conv => whnf)
        | (refine brK_true (by assumption) ?_; conv => whnf)
        | (refine brK_false (by assumption) ?_; conv => whnf)
        | (refine brK_true ?_ ?_; (focus (simp only [List.length_nil, fx, rs_len, rowsOf_rs, hr, ha, hb, hth, ← hS] <;> omega)); conv => whnf)
        | (refine brK_false ?_ ?_; (focus (simp only [List.length_nil, fx, rs_len, rowsOf_rs, hr, ha, hb, hth, ← hS] <;> omega)); conv => whnf)
        | ((refine brK_of (fun h => ?_) (fun h => ?_)) <;> (have h2 := h; (try simp only [List.length_nil, fx, rs_len, rowsOf_rs, hr, ha, hb, hth, ← hS] at h2); conv => whnf))
        | (refine reqK_of ?_ ?_; (focus (first | decide | omega | assumption | (simp only [List.length_nil, fx, rs_len, rowsOf_rs, hr, ha, hb, hth, ← hS] <;> omega) | (simp [keyNew, sameKey, kEq] <;> omega))); conv => whnf)
        | (refine reqK_of ?_ ?_; rotate_left; (conv => whnf); rotate_left)
        | (refine nth_us ?_ ?_ ?_; (focus (first | omega | (simp only [List.length_nil, fx, rs_len, rowsOf_rs, hr, ha, hb, hth, ← hS] <;> omega))); (focus (first | omega | (simp only [List.length_nil, fx, rs_len, rowsOf_rs, hr, ha, hb, hth, ← hS] <;> omega))); conv => whnf)
        | (refine nth_is ?_ ?_ ?_; (focus (first | omega | (simp only [List.length_nil, fx, rs_len, rowsOf_rs, hr, ha, hb, hth, ← hS] <;> omega))); (focus (first | omega | (simp only [List.length_nil, fx, rs_len, rowsOf_rs, hr, ha, hb, hth, ← hS] <;> omega))); conv => whnf)
        | (refine nth_bs ?_ ?_ ?_; (focus (first | omega | (simp only [List.length_nil, fx, rs_len, rowsOf_rs, hr, ha, hb, hth, ← hS] <;> omega))); (focus (first | omega | (simp only [List.length_nil, fx, rs_len, rowsOf_rs, hr, ha, hb, hth, ← hS] <;> omega))); conv => whnf))
      · rw [ha, hb]; exact ⟨hH, hq3⟩
      rw [rowsOf_rs, ha, hb, hp]
      conv => whnf
      repeat' (first
        | (refine brK_true rfl ?_; conv => whnf)
        | (refine brK_false rfl ?_; conv => whnf)
        | (refine brK_true (by assumption) ?_; conv => whnf)
        | (refine brK_false (by assumption) ?_; conv => whnf)
        | (refine brK_true ?_ ?_; (focus (simp only [List.length_nil, fx, rs_len, rowsOf_rs, hr, ha, hb, hth, ← hS] <;> omega)); conv => whnf)
        | (refine brK_false ?_ ?_; (focus (simp only [List.length_nil, fx, rs_len, rowsOf_rs, hr, ha, hb, hth, ← hS] <;> omega)); conv => whnf)
        | ((refine brK_of (fun h => ?_) (fun h => ?_)) <;> (have h2 := h; (try simp only [List.length_nil, fx, rs_len, rowsOf_rs, hr, ha, hb, hth, ← hS] at h2); conv => whnf))
        | (refine reqK_of ?_ ?_; (focus (first | decide | omega | assumption | (simp only [List.length_nil, fx, rs_len, rowsOf_rs, hr, ha, hb, hth, ← hS] <;> omega) | (simp [keyNew, sameKey, kEq] <;> omega))); conv => whnf)
        | (refine reqK_of ?_ ?_; rotate_left; (conv => whnf); rotate_left)
        | (refine nth_us ?_ ?_ ?_; (focus (first | omega | (simp only [List.length_nil, fx, rs_len, rowsOf_rs, hr, ha, hb, hth, ← hS] <;> omega))); (focus (first | omega | (simp only [List.length_nil, fx, rs_len, rowsOf_rs, hr, ha, hb, hth, ← hS] <;> omega))); conv => whnf)
        | (refine nth_is ?_ ?_ ?_; (focus (first | omega | (simp only [List.length_nil, fx, rs_len, rowsOf_rs, hr, ha, hb, hth, ← hS] <;> omega))); (focus (first | omega | (simp only [List.length_nil, fx, rs_len, rowsOf_rs, hr, ha, hb, hth, ← hS] <;> omega))); conv => whnf)
        | (refine nth_bs ?_ ?_ ?_; (focus (first | omega | (simp only [List.length_nil, fx, rs_len, rowsOf_rs, hr, ha, hb, hth, ← hS] <;> omega))); (focus (first | omega | (simp only [List.length_nil, fx, rs_len, rowsOf_rs, hr, ha, hb, hth, ← hS] <;> omega))); conv => whnf))
      rw [rowsOf_rs, eqI_self]
    | true =>
      have hth2 := thereB_iff.1 hth
      have hget : getV L a b = at0 (row L a) b := if_pos hth2
      obtain ⟨v, hv⟩ : ∃ v, v = at0 (row L a) b := ⟨_, rfl⟩
      rw [← hv] at hget
      have hp : hPut sl L a b 0 = .tup [.agg [.int .i64 sl, .list 1 (rs (putH L a b 0))], .bool true] := by
        unfold hPut hPutOk; rw [hth, decide_eq_true (by decide), decide_eq_true (by omega)]; rfl
      have hq5 : IsH (rs (putH L a b 0)) := isH_put hl hL ⟨hth2.1, hth2.2.1⟩
      have hq4 : IsR (rs (putH L a b 0)) ∧ R64 s := ⟨hq5.r, hs⟩
      obtain ⟨T', hT⟩ : ∃ T', T' = rchB (putH L a b 0) (fun _ => true) (bv s) := ⟨_, rfl⟩
      conv => whnf
      repeat' (first
        | (refine brK_true rfl ?_; conv => whnf)
        | (refine brK_false rfl ?_; conv => whnf)
        | (refine brK_true (by assumption) ?_; conv => whnf)
        | (refine brK_false (by assumption) ?_; conv => whnf)
        | (refine brK_true ?_ ?_; (focus (simp only [List.length_nil, fx, rs_len, rowsOf_rs, hr, ha, hb, hth, ← hS] <;> omega)); conv => whnf)
        | (refine brK_false ?_ ?_; (focus (simp only [List.length_nil, fx, rs_len, rowsOf_rs, hr, ha, hb, hth, ← hS] <;> omega)); conv => whnf)
        | ((refine brK_of (fun h => ?_) (fun h => ?_)) <;> (have h2 := h; (try simp only [List.length_nil, fx, rs_len, rowsOf_rs, hr, ha, hb, hth, ← hS] at h2); conv => whnf))
        | (refine reqK_of ?_ ?_; (focus (first | decide | omega | assumption | (simp only [List.length_nil, fx, rs_len, rowsOf_rs, hr, ha, hb, hth, ← hS] <;> omega) | (simp [keyNew, sameKey, kEq] <;> omega))); conv => whnf)
        | (refine reqK_of ?_ ?_; rotate_left; (conv => whnf); rotate_left)
        | (refine nth_us ?_ ?_ ?_; (focus (first | omega | (simp only [List.length_nil, fx, rs_len, rowsOf_rs, hr, ha, hb, hth, ← hS] <;> omega))); (focus (first | omega | (simp only [List.length_nil, fx, rs_len, rowsOf_rs, hr, ha, hb, hth, ← hS] <;> omega))); conv => whnf)
        | (refine nth_is ?_ ?_ ?_; (focus (first | omega | (simp only [List.length_nil, fx, rs_len, rowsOf_rs, hr, ha, hb, hth, ← hS] <;> omega))); (focus (first | omega | (simp only [List.length_nil, fx, rs_len, rowsOf_rs, hr, ha, hb, hth, ← hS] <;> omega))); conv => whnf)
        | (refine nth_bs ?_ ?_ ?_; (focus (first | omega | (simp only [List.length_nil, fx, rs_len, rowsOf_rs, hr, ha, hb, hth, ← hS] <;> omega))); (focus (first | omega | (simp only [List.length_nil, fx, rs_len, rowsOf_rs, hr, ha, hb, hth, ← hS] <;> omega))); conv => whnf))
      · rw [ha, hb]; exact ⟨hH, hq3⟩
      rw [rowsOf_rs, ha, hb, hp]
      conv => whnf
      repeat' (first
        | (refine brK_true rfl ?_; conv => whnf)
        | (refine brK_false rfl ?_; conv => whnf)
        | (refine brK_true (by assumption) ?_; conv => whnf)
        | (refine brK_false (by assumption) ?_; conv => whnf)
        | (refine brK_true ?_ ?_; (focus (simp only [List.length_nil, fx, rs_len, rowsOf_rs, hr, ha, hb, hth, ← hS, ← hT] <;> omega)); conv => whnf)
        | (refine brK_false ?_ ?_; (focus (simp only [List.length_nil, fx, rs_len, rowsOf_rs, hr, ha, hb, hth, ← hS, ← hT] <;> omega)); conv => whnf)
        | ((refine brK_of (fun h => ?_) (fun h => ?_)) <;> (have h2 := h; (try simp only [List.length_nil, fx, rs_len, rowsOf_rs, hr, ha, hb, hth, ← hS, ← hT] at h2); conv => whnf))
        | (refine reqK_of ?_ ?_; (focus (first | decide | omega | assumption | (simp only [List.length_nil, fx, rs_len, rowsOf_rs, hr, ha, hb, hth, ← hS, ← hT] <;> omega) | (simp [keyNew, sameKey, kEq] <;> omega))); conv => whnf)
        | (refine reqK_of ?_ ?_; rotate_left; (conv => whnf); rotate_left)
        | (refine nth_us ?_ ?_ ?_; (focus (first | omega | (simp only [List.length_nil, fx, rs_len, rowsOf_rs, hr, ha, hb, hth, ← hS, ← hT] <;> omega))); (focus (first | omega | (simp only [List.length_nil, fx, rs_len, rowsOf_rs, hr, ha, hb, hth, ← hS, ← hT] <;> omega))); conv => whnf)
        | (refine nth_is ?_ ?_ ?_; (focus (first | omega | (simp only [List.length_nil, fx, rs_len, rowsOf_rs, hr, ha, hb, hth, ← hS, ← hT] <;> omega))); (focus (first | omega | (simp only [List.length_nil, fx, rs_len, rowsOf_rs, hr, ha, hb, hth, ← hS, ← hT] <;> omega))); conv => whnf)
        | (refine nth_bs ?_ ?_ ?_; (focus (first | omega | (simp only [List.length_nil, fx, rs_len, rowsOf_rs, hr, ha, hb, hth, ← hS, ← hT] <;> omega))); (focus (first | omega | (simp only [List.length_nil, fx, rs_len, rowsOf_rs, hr, ha, hb, hth, ← hS, ← hT] <;> omega))); conv => whnf))
      · have h0 : at0 (row L a) b = 0 := by rw [← hv, ← hget]; assumption
        rw [rowsOf_rs, cut_same ⟨hth2.1, hth2.2.1⟩ hth2.2.2 (.inr h0), eqI_self]
      · have h0 : has (bv (iv S)) a = false := by assumption
        rw [bv_iv, hS] at h0
        rw [rowsOf_rs, cut_same ⟨hth2.1, hth2.2.1⟩ hth2.2.2 (.inl h0), eqI_self]
      · have h0 : has (bv (iv S)) a = true := by assumption
        have h1 : getV L a b ≠ 0 := by assumption
        rw [bv_iv, hS] at h0
        rw [hget, hv] at h1
        have h4 := (hr4 a hth2.1 hth2.2.1).2 _ (at0_mem (l := row L a) (i := b) (by omega))
        have h5 : has (own L) (at0 (row L a) b) = true := by
          unfold own
          rw [has_first, obj_t (by omega) (by omega), decide_eq_true (by omega)]; rfl
        have h6 := cut_iff (op := fun _ => true) (S := bv s) ⟨hth2.1, hth2.2.1⟩ hth2.2.2 rfl h0 h5
        rw [← hT, ← hS, ← hv] at h6
        rw [rowsOf_rs, bv_iv, ← hT, ← hS, hget]
        by_cases e : T' = S
        · rw [h6.1 e, e, eqI_self, eqB_def]; rfl
        · have e2 : has T' v = false := by rw [Bool.eq_false_iff]; exact fun h => e (h6.2 h)
          have e3 : eqI (iv T') (iv S) = false := by rw [eq_f]; intro h; exact e (by rw [← bv_iv T', h, bv_iv])
          rw [e2, e3, eqB_def]; rfl
      · have h0 : under (bv (iv T')) (bv (iv S)) = false := by assumption
        rw [bv_iv, bv_iv, hT, hS, cut_under ⟨hth2.1, hth2.2.1⟩] at h0
        cases h0
  · rw [Bool.not_eq_true] at hr
    conv => whnf
    repeat' (first
      | (refine brK_true rfl ?_; conv => whnf)
      | (refine brK_false rfl ?_; conv => whnf)
      | (refine brK_true (by assumption) ?_; conv => whnf)
      | (refine brK_false (by assumption) ?_; conv => whnf)
      | (refine brK_true ?_ ?_; (focus (simp only [List.length_nil, fx, rs_len, rowsOf_rs, hr] <;> omega)); conv => whnf)
      | (refine brK_false ?_ ?_; (focus (simp only [List.length_nil, fx, rs_len, rowsOf_rs, hr] <;> omega)); conv => whnf)
      | ((refine brK_of (fun h => ?_) (fun h => ?_)) <;> (have h2 := h; (try simp only [List.length_nil, fx, rs_len, rowsOf_rs, hr] at h2); conv => whnf))
      | (refine reqK_of ?_ ?_; (focus (first | decide | omega | assumption | (simp only [List.length_nil, fx, rs_len, rowsOf_rs, hr] <;> omega) | (simp [keyNew, sameKey, kEq] <;> omega))); conv => whnf)
      | (refine reqK_of ?_ ?_; rotate_left; (conv => whnf); rotate_left)
      | (refine nth_us ?_ ?_ ?_; (focus (first | omega | (simp only [List.length_nil, fx, rs_len, rowsOf_rs, hr] <;> omega))); (focus (first | omega | (simp only [List.length_nil, fx, rs_len, rowsOf_rs, hr] <;> omega))); conv => whnf)
      | (refine nth_is ?_ ?_ ?_; (focus (first | omega | (simp only [List.length_nil, fx, rs_len, rowsOf_rs, hr] <;> omega))); (focus (first | omega | (simp only [List.length_nil, fx, rs_len, rowsOf_rs, hr] <;> omega))); conv => whnf)
      | (refine nth_bs ?_ ?_ ?_; (focus (first | omega | (simp only [List.length_nil, fx, rs_len, rowsOf_rs, hr] <;> omega))); (focus (first | omega | (simp only [List.length_nil, fx, rs_len, rowsOf_rs, hr] <;> omega))); conv => whnf))
open Classical in
noncomputable def c3 : List T → Ans
  | [.agg [.int .i64 sl, .list 1 xs], .int .u64 s, .int .u8 o, .int .u8 k] => .req ((IsH xs ∧ R64 s) ∧ R8 o ∧ R8 k) (.bool true)
  | _ => .no
theorem got3 {vs : List T} {x : T} (h : Got (c3 vs) x) : FnOk Tryd.prog tgl 3 vs x := by
  unfold c3 at h
  split at h
  · obtain ⟨hq, e⟩ := got_req h; rw [e]; exact ok3 _ _ _ _ _ hq
  · exact (got_no h).elim
theorem nogl3 (vs : List T) (p : Prop) (d : Decidable p) (sz : Nat) (xs : List T) (h : c3 vs = @Ans.gl p d sz xs) : False := by
  unfold c3 at h
  split at h <;> cases h
theorem pk3 (vs : List T) (p : Prop) (d : Decidable p) (x : T) (h : c3 vs = @Ans.pk p d x) (hp : p) : FnOk Tryd.prog tgl 3 vs x := by
  unfold c3 at h
  split at h
  · cases h
  · cases h
end Go.Nx
end
