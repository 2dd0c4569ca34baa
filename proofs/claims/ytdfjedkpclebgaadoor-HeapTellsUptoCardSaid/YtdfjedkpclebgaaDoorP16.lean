/-
  A part of the machine, and of what is walked.
-/
import Derived.Test.YtdfjedkpclebgaaDoorP15
import Derived.WalkKit
import Derived.Deep.RegionHeld3
import Derived.Deep.AppendLies
import Derived.IntWalk
section
set_option linter.unusedVariables false
set_option linter.unusedSimpArgs false
set_option maxRecDepth 20000
set_option maxHeartbeats 0
namespace Go.Nx
open Go Go.RowKit Go.Shelf Go.Proofs

theorem infoR : (Tryd.prog.info? 39).map (fun i => (i.zero, i.size, i.bytes)) = some (some (.slice none 0 0), 1, 24) := by kernel_rfl
theorem infoI : (Tryd.prog.info? 3).map (fun i => (i.zero, i.size, i.bytes)) = some (some (.int .i64 0), 1, 8) := by kernel_rfl
theorem row_out {w w' : World} {base n : Nat} {e : TypeId} {v : Value} {news : List Value} (h : w'.ownsRow base e 1 v n news) (hv : v ≠ .slice none 0 0) :
    ∃ (g cap : Nat) (cur : Array Value), v = .slice (some ⟨g, 0, none⟩) n cap ∧ base ≤ g ∧ w'.heap[g]? = some (.cells cur e (0, 0)) ∧ n ≤ cap ∧ cur.size = cap ∧ ∀ (j : Nat) (u : Value), news[j]? = some u → cur[j]? = some u := by
  rcases h.2 with ⟨rfl, _⟩ | ⟨g, cap, cur, rfl, hb, hg, hn, _, hcs, htk⟩
  · exact absurd rfl hv
  · refine ⟨g, cap, cur, rfl, hb, hg, hn, by omega, fun j u hu => ?_⟩
    rw [← htk, List.getElem?_take] at hu
    split at hu
    · simpa using hu
    · cases hu
theorem clone41 (b off n c : Nat) (news : List Value) (w : World) (hl : news.length = n) (hn : n ≤ 1048576) (hc : ∀ (j : Nat) (u : Value), news[j]? = some u → w.cell? ⟨b, off + j, none⟩ = some u) (h1 : ∀ u ∈ news, u.oneCell' = true) :
    Calls Tryd.prog 41 #[.slice (some ⟨b, off, none⟩) n c] w fun e w' => ∃ (g cap : Nat) (cur : Array Value), e = .returned (.slice (some ⟨g, 0, none⟩) n cap) ∧ w.heap.size ≤ g ∧ w'.heap[g]? = some (.cells cur 39 (0, 0)) ∧ n ≤ cap ∧ cur.size = cap ∧ (∀ (j : Nat) (u : Value), news[j]? = some u → cur[j]? = some u) ∧ Below w.heap.size w w' := by
  obtain ⟨i0, hi, hz0, hz1, hz2⟩ := info_parts infoR
  refine (Tryd.slices_Clone_f41 i0 (.slice none 0 0) 1 24 hi hz0 hz1 hz2 rfl (by decide) (fun _ => by kernel_rfl) b off n c news w (by omega) (by unfold maxLen; omega) (by omega) hc h1).mono ?_
  rintro e w' ⟨v', rfl, hr, hv, hb⟩
  obtain ⟨g, cap, cur, rfl, k1, k2, k3, k4, k5⟩ := row_out (w := w) hr hv
  exact ⟨g, cap, cur, rfl, k1, k2, k3, k4, k5, hb⟩
theorem clone42 (b off n c : Nat) (news : List Value) (w : World) (hl : news.length = n) (hn : n ≤ 1048576) (hc : ∀ (j : Nat) (u : Value), news[j]? = some u → w.cell? ⟨b, off + j, none⟩ = some u) (h1 : ∀ u ∈ news, u.oneCell' = true) :
    Calls Tryd.prog 42 #[.slice (some ⟨b, off, none⟩) n c] w fun e w' => ∃ (g cap : Nat) (cur : Array Value), e = .returned (.slice (some ⟨g, 0, none⟩) n cap) ∧ w.heap.size ≤ g ∧ w'.heap[g]? = some (.cells cur 3 (0, 0)) ∧ n ≤ cap ∧ cur.size = cap ∧ (∀ (j : Nat) (u : Value), news[j]? = some u → cur[j]? = some u) ∧ Below w.heap.size w w' := by
  obtain ⟨i0, hi, hz0, hz1, hz2⟩ := info_parts infoI
  refine (Tryd.slices_Clone_f42 i0 (.int .i64 0) 1 8 hi hz0 hz1 hz2 rfl (by decide) (fun _ => by kernel_rfl) b off n c news w (by omega) (by unfold maxLen; omega) (by omega) hc h1).mono ?_
  rintro e w' ⟨v', rfl, hr, hv, hb⟩
  obtain ⟨g, cap, cur, rfl, k1, k2, k3, k4, k5⟩ := row_out (w := w) hr hv
  exact ⟨g, cap, cur, rfl, k1, k2, k3, k4, k5, hb⟩
theorem put_out (w5 w : World) (B g g2 i si len cg lr cg2 : Nat) (n v : Int) (old1 old2 old3 : Value) (us rw_ : List Value) (hgB : g ≠ B + 1) (hg2B : g2 ≠ B + 1) (hgg : g ≠ g2) (hBg : B ≤ g) (hBg2 : B ≤ g2) (hBB : w.heap.size ≤ B) (hb : Below B w w5)
    (r50 : w5.cell? ⟨B + 1, 0, none⟩ = some (.int .i64 0)) (r51 : w5.cell? ⟨B + 1, 1, none⟩ = some old1) (g5i : w5.cell? ⟨g, i, none⟩ = some (.slice (some ⟨g2, 0, none⟩) lr cg2)) (g5j : ∀ j u, us[j]? = some u → j ≠ i → w5.cell? ⟨g, j, none⟩ = some u)
    (h5j : ∀ j u, rw_[j]? = some u → w5.cell? ⟨g2, j, none⟩ = some u) (h5s : w5.cell? ⟨g2, si, none⟩ = some old3) (hglt : g < w5.heap.size) (hg2lt : g2 < w5.heap.size) :
    ∀ w8, w8 = ((w5.setCell ⟨g2, si, none⟩ (.int .i64 v)).setCell ⟨B + 1, 0, none⟩ (.int .i64 n)).setCell ⟨B + 1, 1, none⟩ (.slice (some ⟨g, 0, none⟩) len cg) →
    w8.cell? ⟨B + 1, 0, none⟩ = some (.int .i64 n) ∧ w8.cell? ⟨B + 1, 1, none⟩ = some (.slice (some ⟨g, 0, none⟩) len cg) ∧ (∀ j u, us[j]? = some u → j ≠ i → w8.cell? ⟨g, j, none⟩ = some u) ∧ w8.cell? ⟨g, i, none⟩ = some (.slice (some ⟨g2, 0, none⟩) lr cg2) ∧
    (∀ j u, rw_[j]? = some u → j ≠ si → w8.cell? ⟨g2, j, none⟩ = some u) ∧ w8.cell? ⟨g2, si, none⟩ = some (.int .i64 v) ∧ Below B w w8 ∧ g < w8.heap.size ∧ g2 < w8.heap.size := by
  intro w8 h8
  have up : ∀ (b j : Nat), b ≠ B + 1 → w8.cell? ⟨b, j, none⟩ = (w5.setCell ⟨g2, si, none⟩ (.int .i64 v)).cell? ⟨b, j, none⟩ := fun b j hb => by
    rw [h8]
    exact (World.cell?_setCell_other _ _ _ _ (fun e => hb (congrArg Addr.block e).symm)).trans (World.cell?_setCell_other _ _ _ _ (fun e => hb (congrArg Addr.block e).symm))
  refine ⟨?_, ?_, ?_, ?_, ?_, ?_, ?_, ?_, ?_⟩
  · rw [h8]
    refine (World.cell?_setCell_other _ _ _ _ (by simp)).trans (World.cell?_setCell_same _ _ _ (u := .int .i64 0) ?_)
    exact (World.cell?_setCell_other _ _ _ _ (fun e => hg2B (congrArg Addr.block e))).trans r50
  · rw [h8]
    refine World.cell?_setCell_same _ _ _ (u := old1) ?_
    refine (World.cell?_setCell_other _ _ _ _ (by simp)).trans ?_
    exact (World.cell?_setCell_other _ _ _ _ (fun e => hg2B (congrArg Addr.block e))).trans r51
  · intro j u hj hne
    exact (up g j hgB).trans ((World.cell?_setCell_other _ _ _ _ (fun e => hgg (congrArg Addr.block e).symm)).trans (g5j j u hj hne))
  · exact (up g i hgB).trans ((World.cell?_setCell_other _ _ _ _ (fun e => hgg (congrArg Addr.block e).symm)).trans g5i)
  · intro j u hj hne
    exact (up g2 j hg2B).trans ((World.cell?_setCell_other _ _ _ _ (fun e => hne (congrArg Addr.off e).symm)).trans (h5j j u hj))
  · exact (up g2 si hg2B).trans (World.cell?_setCell_same _ _ _ h5s)
  · rw [h8]; exact ((hb.setCell hBg2 _).setCell (Nat.le_succ B) _).setCell (Nat.le_succ B) _
  · rw [h8]; simpa [World.setCell] using hglt
  · rw [h8]; simpa [World.setCell] using hg2lt
theorem put_calls (n o s v : Int) (b0 o0 cap len br or_ lr cr : Nat) (w : World) (R : Ending → World → Prop) (us rw_ : List Value)
    (hb0 : b0 < w.heap.size) (hlen : us.length = len) (hcap : len ≤ cap) (hbig : len ≤ 1048576) (hus : ∀ j u, us[j]? = some u → w.cell? ⟨b0, o0 + j, none⟩ = some u) (hus1 : ∀ u ∈ us, u.oneCell' = true)
    (ho : 1 ≤ o ∧ o ≤ len) (hrow : us[(o - 1).toNat]? = some (.slice (some ⟨br, or_, none⟩) lr cr)) (hbr : br < w.heap.size) (hrl : rw_.length = lr) (hlr : lr ≤ 1048576) (hrw : ∀ j u, rw_[j]? = some u → w.cell? ⟨br, or_ + j, none⟩ = some u) (hrw1 : ∀ u ∈ rw_, u.oneCell' = true)
    (hs : 0 ≤ s ∧ s < lr) (hv : 0 ≤ v ∧ v ≤ len)
    (hth : Calls Tryd.prog 40 #[.agg #[.int .i64 n, .slice (some ⟨b0, o0, none⟩) len cap], .int .i64 o, .int .i64 s] ((w.alloc (.cells #[.int .i64 n, .slice (some ⟨b0, o0, none⟩) len cap] 24)).alloc (.cells #[.int .i64 0, .slice none 0 0] 24))
      fun e w' => e = .returned (.bool true) ∧ Below (w.heap.size + 2) ((w.alloc (.cells #[.int .i64 n, .slice (some ⟨b0, o0, none⟩) len cap] 24)).alloc (.cells #[.int .i64 0, .slice none 0 0] 24)) w')
    (hR : ∀ (w' : World) (g cg g2 cg2 : Nat), Below w.heap.size w w' → w.heap.size ≤ g → g < w'.heap.size → w.heap.size ≤ g2 → g2 < w'.heap.size → len ≤ cg → lr ≤ cg2 → (∀ j u, us[j]? = some u → j ≠ (o - 1).toNat → w'.cell? ⟨g, j, none⟩ = some u) → w'.cell? ⟨g, (o - 1).toNat, none⟩ = some (.slice (some ⟨g2, 0, none⟩) lr cg2) →
      (∀ j u, rw_[j]? = some u → j ≠ s.toNat → w'.cell? ⟨g2, j, none⟩ = some u) → w'.cell? ⟨g2, s.toNat, none⟩ = some (.int .i64 v) → R (.returned (.tuple #[.agg #[.int .i64 n, .slice (some ⟨g, 0, none⟩) len cg], .bool true])) w') :
    Calls Tryd.prog 10 #[.agg #[.int .i64 n, .slice (some ⟨b0, o0, none⟩) len cap], .int .i64 o, .int .i64 s, .int .i64 v] w R := by
  have hz : Tryd.prog.info? 39 = Tryd.prog.info? 39 := rfl
  go_enter Tryd.func10, Tryd.ntmps10
  go_wp2_with (go_at_call 40; refine hth.mono ?_; rintro e w1 ⟨rfl, hb1⟩; have c0 : w1.cell? ⟨w.heap.size, 0, none⟩ = some (.int .i64 n) := (hb1.cell (by simp)).trans (by simp); have c1 : w1.cell? ⟨w.heap.size, 1, none⟩ = some (.slice (some ⟨b0, o0, none⟩) len cap) := (hb1.cell (by simp)).trans (by simp); have f1 : w1.frozen? ⟨w.heap.size, 1, none⟩ = false := (hb1.frozen (by simp)).trans (by simp); have d0 : w1.cell? ⟨w.heap.size + 1, 0, none⟩ = some (.int .i64 0) := (hb1.cell (by simp)).trans (by simp); have d1 : w1.cell? ⟨w.heap.size + 1, 1, none⟩ = some (.slice none 0 0) := (hb1.cell (by simp)).trans (by simp); have e0 : ∀ j, w1.frozen? ⟨w.heap.size + 1, j, none⟩ = false := fun j => (hb1.frozen (by simp)).trans (by simp))
  have past1 : ∀ k i, k < w.heap.size → w1.cell? ⟨k, i, none⟩ = w.cell? ⟨k, i, none⟩ := fun k i hk => (hb1.cell (show k < _ by omega)).trans ((World.cell?_alloc_past _ _ _ (by simp; omega)).trans (World.cell?_alloc_past _ _ _ hk))
  have hs1 : w.heap.size + 2 ≤ w1.heap.size := by have := hb1.size; simp at this; omega
  refine (clone41 b0 o0 len cap us w1 hlen hbig (fun j u hj => (past1 _ _ hb0).trans (hus j u hj)) hus1).mono ?_
  rintro e w2 ⟨g, cg, cur, rfl, hg1, hg2, hg3, hg4, hg5, hb2⟩
  have hs2 := hb2.size
  have c0' : w2.cell? ⟨w.heap.size, 0, none⟩ = some (.int .i64 n) := (hb2.cell (show w.heap.size < _ by omega)).trans c0
  have c1' : w2.cell? ⟨w.heap.size, 1, none⟩ = some (.slice (some ⟨b0, o0, none⟩) len cap) := (hb2.cell (show w.heap.size < _ by omega)).trans c1
  have f1' : w2.frozen? ⟨w.heap.size, 1, none⟩ = false := (hb2.frozen (show w.heap.size < _ by omega)).trans f1
  dsimp only
  go_wp2_with fail
  have hgne : w.heap.size ≠ g := by omega
  have d0' := (hb2.cell (p := ⟨w.heap.size + 1, 0, none⟩) (show w.heap.size + 1 < _ by omega)).trans d0
  have d1' := (hb2.cell (p := ⟨w.heap.size + 1, 1, none⟩) (show w.heap.size + 1 < _ by omega)).trans d1
  have e0' := fun j => (hb2.frozen (p := ⟨w.heap.size + 1, j, none⟩) (show w.heap.size + 1 < _ by omega)).trans (e0 j)
  have past2 : ∀ k i, k < w.heap.size → w2.cell? ⟨k, i, none⟩ = w.cell? ⟨k, i, none⟩ := fun k i hk => (hb2.cell (show k < _ by omega)).trans (past1 k i hk)
  obtain ⟨w3, hw3⟩ : ∃ w3, w3 = w2.setCell ⟨w.heap.size, 1, none⟩ (.slice (some ⟨g, 0, none⟩) len cg) := ⟨_, rfl⟩
  have c30 : w3.cell? ⟨w.heap.size, 0, none⟩ = some (.int .i64 n) := by rw [hw3]; exact (World.cell?_setCell_other _ _ _ _ (by simp)).trans c0'
  have c31 : w3.cell? ⟨w.heap.size, 1, none⟩ = some (.slice (some ⟨g, 0, none⟩) len cg) := by rw [hw3]; exact World.cell?_setCell_same _ _ _ c1'
  have c3g : ∀ j u, us[j]? = some u → w3.cell? ⟨g, j, none⟩ = some u := fun j u hj => by
    rw [hw3]; refine (World.cell?_setCell_other _ _ _ _ (fun e => hgne (congrArg Addr.block e))).trans ?_
    simp [World.cell?, hg2]; exact hg5 j u hj
  have past3 : ∀ k i, k < w.heap.size → w3.cell? ⟨k, i, none⟩ = w.cell? ⟨k, i, none⟩ := fun k i hk => by
    rw [hw3]; exact (World.cell?_setCell_other _ _ _ _ (fun e => Nat.ne_of_gt hk (congrArg Addr.block e))).trans (past2 k i hk)
  have f3g : w3.frozen? ⟨g, (o - 1).toNat, none⟩ = false := by
    rw [hw3]
    refine (World.frozen?_of_block (w := w2) (Below.heap_setCell _ _ _ _ (show g ≠ w.heap.size from Ne.symm hgne))).trans ?_
    simp [World.frozen?, hg2]
  have d30 : w3.cell? ⟨w.heap.size + 1, 0, none⟩ = some (.int .i64 0) := by rw [hw3]; exact (World.cell?_setCell_other _ _ _ _ (by simp)).trans d0'
  have d31 : w3.cell? ⟨w.heap.size + 1, 1, none⟩ = some (.slice none 0 0) := by rw [hw3]; exact (World.cell?_setCell_other _ _ _ _ (by simp)).trans d1'
  have e30 : ∀ j, w3.frozen? ⟨w.heap.size + 1, j, none⟩ = false := fun j => by
    rw [hw3]
    exact (World.frozen?_of_block (w := w2) (Below.heap_setCell _ _ _ _ (show w.heap.size + 1 ≠ w.heap.size by omega))).trans (e0' j)
  have hbw3 : Below w.heap.size w w3 := by
    rw [hw3]
    exact ((((Below.refl _ w).alloc (Nat.le_refl _) _).alloc (by simp) _).trans (hb1.mono (by omega))).trans (hb2.mono (by omega)) |>.setCell (Nat.le_refl _) _
  rw [← hw3]
  have hoi : (o - 1).toNat < us.length := by omega
  have hwo : IntKind.i64.wrap (o - 1) = o - 1 := wrap_i64 ⟨by omega, by omega⟩
  have crow := c3g _ _ hrow
  have hs3 : w3.heap.size = w2.heap.size := by rw [hw3]; simp [World.setCell]
  have hg3' : g < w3.heap.size := by rw [hs3]; exact (Array.getElem?_eq_some_iff.1 hg2).1
  have hoj : 0 ≤ o - 1 := by omega
  have hoj2 : o - 1 < (len : Int) := by omega
  clear hth hb1 hb2 c0 c1 f1 c0' c1' f1' past1 past2 hg2 hg5 hus hw3 d0 d1 e0 d0' d1' e0'
  have past3d : ∀ k i, k < w.heap.size → w3.drew.cell? ⟨k, i, none⟩ = w.cell? ⟨k, i, none⟩ := past3
  obtain ⟨i, hi⟩ : ∃ i : Nat, o - 1 = (i : Int) := ⟨(o - 1).toNat, by omega⟩
  have hit : (o - 1).toNat = i := by omega
  rw [hit] at crow hoi hrow f3g
  rw [hi] at hwo hoj hoj2
  go_region_law (first
    | (go_simp; go_at_call 42; refine (clone42 br or_ lr cr rw_ w3.drew hrl hlr (fun j u hj => (past3d _ _ hbr).trans (hrw j u hj)) hrw1).mono ?_; rintro e w4 ⟨g2, cg2, cur2, rfl, hh1, hh2, hh3, hh4, hh5, hb4⟩; have k1 : w4.cell? ⟨w.heap.size, 1, none⟩ = some (.slice (some ⟨g, 0, none⟩) len cg) := (hb4.cell (show w.heap.size < _ by simp; omega)).trans c31; have k2 : w4.cell? ⟨g, i, none⟩ = some (.slice (some ⟨br, or_, none⟩) lr cr) := (hb4.cell (show g < _ by simp; omega)).trans crow; have k3 : w4.frozen? ⟨g, i, none⟩ = false := (hb4.frozen (show g < _ by simp; omega)).trans f3g))
  all_goals
    have hs4 := hb4.size
    have hs4' : w3.heap.size ≤ w4.heap.size := hs4
    have q0 : w4.cell? ⟨w.heap.size, 0, none⟩ = some (.int .i64 n) := (hb4.cell (show w.heap.size < w3.heap.size by omega)).trans c30
    have r0 : w4.cell? ⟨w.heap.size + 1, 0, none⟩ = some (.int .i64 0) := (hb4.cell (show w.heap.size + 1 < w3.heap.size by omega)).trans d30
    have r1 : w4.cell? ⟨w.heap.size + 1, 1, none⟩ = some (.slice none 0 0) := (hb4.cell (show w.heap.size + 1 < w3.heap.size by omega)).trans d31
    have r2 : ∀ j, w4.frozen? ⟨w.heap.size + 1, j, none⟩ = false := fun j => (hb4.frozen (show w.heap.size + 1 < w3.heap.size by omega)).trans (e30 j)
    have hh1' : w3.heap.size ≤ g2 := hh1
    have hgg : g ≠ g2 := by omega
    obtain ⟨w5, hw5⟩ : ∃ w5, w5 = w4.setCell ⟨g, i, none⟩ (.slice (some ⟨g2, 0, none⟩) lr cg2) := ⟨_, rfl⟩
    rw [← hw5]
    have oth : ∀ (b j : Nat), b ≠ g → w5.cell? ⟨b, j, none⟩ = w4.cell? ⟨b, j, none⟩ := fun b j hb => by
      rw [hw5]; exact World.cell?_setCell_other _ _ _ _ (fun e => hb (congrArg Addr.block e).symm)
    have othf : ∀ (b j : Nat), b ≠ g → w5.frozen? ⟨b, j, none⟩ = w4.frozen? ⟨b, j, none⟩ := fun b j hb => by
      rw [hw5]; exact World.frozen?_of_block (w := w4) (Below.heap_setCell _ _ _ _ hb)
    have q50 := (oth w.heap.size 0 hgne).trans q0
    have q51 := (oth w.heap.size 1 hgne).trans k1
    have r50 := (oth (w.heap.size + 1) 0 (by omega)).trans r0
    have r51 := (oth (w.heap.size + 1) 1 (by omega)).trans r1
    have r52 : w5.frozen? ⟨w.heap.size + 1, 0, none⟩ = false := (othf (w.heap.size + 1) 0 (by omega)).trans (r2 0)
    have r53 : w5.frozen? ⟨w.heap.size + 1, 1, none⟩ = false := (othf (w.heap.size + 1) 1 (by omega)).trans (r2 1)
    have g5i : w5.cell? ⟨g, i, none⟩ = some (.slice (some ⟨g2, 0, none⟩) lr cg2) := by rw [hw5]; exact World.cell?_setCell_same _ _ _ k2
    have g5j : ∀ j u, us[j]? = some u → j ≠ i → w5.cell? ⟨g, j, none⟩ = some u := fun j u hj hne => by
      rw [hw5]
      exact ((World.cell?_setCell_other _ _ _ _ (fun e => hne (congrArg Addr.off e).symm)).trans (hb4.cell (show g < w3.heap.size from hg3'))).trans (c3g j u hj)
    have h5j : ∀ j u, rw_[j]? = some u → w5.cell? ⟨g2, j, none⟩ = some u := fun j u hj => (oth g2 j (Ne.symm hgg)).trans (by simp [World.cell?, hh2]; exact hh5 j u hj)
    have h5f : ∀ j, w5.frozen? ⟨g2, j, none⟩ = false := fun j => (othf g2 j (Ne.symm hgg)).trans (by simp [World.frozen?, hh2])
    have hg2lt : g2 < w5.heap.size := by rw [hw5]; have := (Array.getElem?_eq_some_iff.1 hh2).1; simpa [World.setCell] using this
    have hglt : g < w5.heap.size := by rw [hw5]; simp [World.setCell]; omega
    have hbw5 : Below w.heap.size w w5 := by
      have hb4' : Below w3.heap.size w3 w4 := ⟨hb4.os, hb4.tape, hb4.output, hb4.size, hb4.block⟩
      rw [hw5]; exact (hbw3.trans (hb4'.mono (show w.heap.size ≤ w3.heap.size by omega))).setCell (show w.heap.size ≤ g by omega) _
    obtain ⟨si, hsi⟩ : ∃ si : Nat, s = (si : Int) := ⟨s.toNat, by omega⟩
    have hsit : s.toNat = si := by omega
    subst hsi
    have hsl : si < rw_.length := by omega
    have h5s := h5j si rw_[si] (List.getElem?_eq_getElem hsl)
    have h5fs := h5f si
    have hBg : w.heap.size ≤ g := by omega
    have hBg2 : w.heap.size ≤ g2 := by omega
    have hgB : g ≠ w.heap.size + 1 := by omega
    have hg2B : g2 ≠ w.heap.size + 1 := by omega
    clear hw5 hb4 hh2 hh5 hbw3 c3g past3 past3d e30 r2
    go_wp2_with fail
    obtain ⟨z0, z1, zg, zi, z2, zs, zb, zg1, zg2⟩ := put_out w5 w w.heap.size g g2 i si len cg lr cg2 n v (.slice none 0 0) (.int .i64 0) rw_[si] us rw_ hgB hg2B hgg hBg hBg2 (Nat.le_refl _) hbw5 r50 r51 g5i g5j h5j h5s hglt hg2lt _ rfl
    have fin : R _ _ := hR _ g cg g2 cg2 zb hBg zg1 hBg2 zg2 hg3 hh3 (by rw [hit]; exact zg) (by rw [hit]; exact zi) (by rw [hsit]; exact z2) (by rw [hsit]; exact zs)
    clear hR
    refine bodyPost_ret (v := .tuple #[.agg #[.int .i64 n, .slice (some ⟨g, 0, none⟩) len cg], .bool true]) ?_ rfl fin
    simp [results, Tryd.results10, go_sem, z0, z1]
end Go.Nx
end
section
set_option linter.unusedVariables false
set_option linter.unusedSimpArgs false
set_option maxRecDepth 20000
set_option maxHeartbeats 4000000
namespace Go.Nx
open Go Go.RowKit Go.Proofs

theorem list_in {S : Cells} {w : World} {xs : List T} {v : Value} (h : RelT S w (.list 1 xs) v) (hne : xs ≠ []) (h1 : ∀ x ∈ xs, x.cells = [x]) :
    ∃ (b o cap : Nat) (us : List Value), v = .slice (some ⟨b, o, none⟩) xs.length cap ∧ us.length = xs.length ∧ xs.length ≤ cap ∧ (∀ (j : Nat) (u : Value), us[j]? = some u → S b (o + j) ∧ w.cell? ⟨b, o + j, none⟩ = some u) ∧ ∀ (j : Nat) (x : T) (u : Value), xs[j]? = some x → us[j]? = some u → RelT S w x u := by
  cases h with
  | list sz xs a cap u hcap ha hsz hr =>
    obtain ⟨b, o, rfl, hc⟩ := ha hne
    refine ⟨b, o, cap, (List.range xs.length).map (fun i => u i 0), rfl, by simp, hcap, fun j x hj => ?_, fun j x y hx hy => ?_⟩
    · have hlt : j < xs.length := by have := (List.getElem?_eq_some_iff.1 hj).1; simpa using this
      rw [List.getElem?_map, List.getElem?_range hlt] at hj
      simp only [Option.map_some, Option.some.injEq] at hj
      subst hj
      have := hc j 0 hlt (by omega)
      simpa using this
    · have hlt : j < xs.length := (List.getElem?_eq_some_iff.1 hx).1
      rw [List.getElem?_map, List.getElem?_range hlt] at hy
      simp only [Option.map_some, Option.some.injEq] at hy
      subst hy
      exact hr j x hx 0 x (by rw [h1 x (List.mem_of_getElem? hx)]; rfl)
theorem list_out {S : Cells} {w : World} {xs : List T} {g cap : Nat} (us : Nat → Value) (hcap : xs.length ≤ cap) (hc : ∀ j, j < xs.length → S g j ∧ w.cell? ⟨g, j, none⟩ = some (us j)) (h1 : ∀ x ∈ xs, x.cells = [x] ∧ x.one = true)
    (hr : ∀ j x, xs[j]? = some x → RelT S w x (us j)) : RelT S w (.list 1 xs) (.slice (some ⟨g, 0, none⟩) xs.length cap) := by
  refine .list 1 xs _ cap (fun i _ => us i) hcap (fun _ => ⟨g, 0, rfl, fun i j hi hj => ?_⟩) (fun x hx => ⟨by rw [(h1 x hx).1]; rfl, fun c hc' => ?_⟩) (fun i x hx j c hc' => ?_)
  · have e : j = 0 := by omega
    subst e
    simpa using hc i hi
  · rw [(h1 x hx).1, List.mem_singleton] at hc'; subst hc'; exact (h1 _ hx).2
  · rw [(h1 x (List.mem_of_getElem? hx)).1] at hc'
    match j with
    | 0 => simp at hc'; subst hc'; exact hr i x hx
    | j + 1 => simp at hc'
theorem rs_cells (L : List (List Int)) : ∀ x ∈ rs L, x.cells = [x] ∧ x.one = true := fun x hx => by
  obtain ⟨l, _, rfl⟩ := List.mem_map.1 hx
  exact ⟨rfl, rfl⟩
theorem is_cells (l : List Int) : ∀ x ∈ is l, x.cells = [x] ∧ x.one = true := fun x hx => by
  obtain ⟨n, _, rfl⟩ := List.mem_map.1 hx
  exact ⟨rfl, rfl⟩
def hPutOk (L : List (List Int)) (o s v : Int) : Bool := hThere L o s && (decide (0 ≤ v) && decide (v ≤ L.length))
def hSet (L : List (List Int)) (o s v : Int) : List (List Int) := L.set (o - 1).toNat ((row L o).set s.toNat v)
def hPut (n : Int) (L : List (List Int)) (o s v : Int) : T := if hPutOk L o s v then .tup [.agg [.int .i64 n, .list 1 (rs (hSet L o s v))], .bool true] else .tup [.agg [.int .i64 n, .list 1 (rs L)], .bool false]
theorem rs_set (L : List (List Int)) (o s v : Int) : rs (hSet L o s v) = (rs L).set (o - 1).toNat (.list 1 ((is (row L o)).set s.toNat (.int .i64 v))) := by
  unfold rs hSet is
  rw [List.map_set, List.map_set]
theorem glOk_keep {gl : Gl} {S : Cells} {w w' : World} (hS : ∀ b o, S b o → b < w.heap.size) (h : ∀ b o, b < w.heap.size → w'.cell? ⟨b, o, none⟩ = w.cell? ⟨b, o, none⟩) (hg : GlOk gl S w) : GlOk gl S w' := fun g cs e i c hc => by
  obtain ⟨h1, u, h2, h3⟩ := hg g cs e i c hc
  exact ⟨h1, u, (h _ _ (hS _ _ h1)).trans h2, h3.mono (fun _ _ h => h) (fun b o hb => h _ _ (hS _ _ hb))⟩
theorem put_yes (n o s v : Int) (L : List (List Int)) (hl : L.length ≤ 1048576) (hL : ∀ l ∈ L, l.length ≤ 1048576 ∧ ∀ n ∈ l, I64 n) (hq : I64 o ∧ I64 s ∧ I64 v) (hh : hPutOk L o s v = true) (he : Enter Tryd.prog 10) :
    FnOk Tryd.prog tgl 10 [.agg [.int .i64 n, .list 1 (rs L)], .int .i64 o, .int .i64 s, .int .i64 v] (.tup [.agg [.int .i64 n, .list 1 (rs (hSet L o s v))], .bool true]) := by
  refine ⟨he, fun S w args hS hgl hn ha => ?_⟩
  unfold hPutOk at hh
  simp only [Bool.and_eq_true, decide_eq_true_eq] at hh
  obtain ⟨hth, hv0, hv1⟩ := hh
  obtain ⟨t1, t2, t3, t4⟩ := hThere_iff.1 hth
  have hn4 : args.size = 4 := hn
  obtain ⟨a0, a1, a2, a3, rfl⟩ : ∃ a0 a1 a2 a3, args = #[a0, a1, a2, a3] := by
    obtain ⟨l⟩ := args
    match l, hn4 with
    | [a, b, c, d], _ => exact ⟨a, b, c, d, rfl⟩
  have r0 := ha 0 _ a0 rfl rfl
  have r1 := (ha 1 _ a1 rfl rfl).int_of
  have r2 := (ha 2 _ a2 rfl rfl).int_of
  have r3 := (ha 3 _ a3 rfl rfl).int_of
  subst r1 r2 r3
  obtain ⟨arr, rfl, hsz, hin⟩ := r0.agg_of
  have hsz2 : arr.size = 2 := hsz
  obtain ⟨c0, c1, rfl⟩ : ∃ c0 c1, arr = #[c0, c1] := by
    obtain ⟨l⟩ := arr
    match l, hsz2 with
    | [a, b], _ => exact ⟨a, b, rfl⟩
  have q0 := (hin 0 _ c0 rfl rfl).int_of
  have q1 := hin 1 _ c1 rfl rfl
  subst q0
  have hne : rs L ≠ [] := fun e => by have := congrArg List.length e; rw [rs_len] at this; simp at this; rw [this] at t2; simp at t2; omega
  obtain ⟨b0, o0, cap, us, rfl, hul, hcap, hus, hur⟩ := list_in q1 hne (fun x hx => (rs_cells L x hx).1)
  rw [rs_len] at hul hcap
  have hoL : (o - 1).toNat < L.length := by omega
  have erow : L[(o - 1).toNat]? = some (row L o) := by unfold row; rw [List.getElem?_eq_getElem hoL]; rfl
  have hx : (rs L)[(o - 1).toNat]? = some (.list 1 (is (row L o))) := by unfold rs; rw [List.getElem?_map, erow]; rfl
  have hu : us[(o - 1).toNat]? = some (us[(o - 1).toNat]'(by omega)) := List.getElem?_eq_getElem _
  have hrow := hur _ _ _ hx hu
  have hrm : row L o ∈ L := row_mem t1 t2
  have hne2 : is (row L o) ≠ [] := fun e => by have := congrArg List.length e; rw [is_len] at this; simp at this; rw [this] at t4; simp at t4; omega
  obtain ⟨br, or_, cr, rw_, ev, hrl, hrc, hrw, hrr⟩ := list_in hrow hne2 (fun x hx => (is_cells _ x hx).1)
  rw [is_len] at hrl hrc ev
  rw [ev] at hu
  rw [rs_len]
  refine put_calls n o s v b0 o0 cap L.length br or_ (row L o).length cr w _ us rw_ ?_ hul hcap hl (fun j u hj => (hus j u hj).2) ?_ ⟨t1, t2⟩ hu ?_ hrl (hL _ hrm).1 (fun j u hj => (hrw j u hj).2) ?_ ⟨t3, t4⟩ ⟨hv0, hv1⟩ ?_ ?_
  · exact hS _ _ (hus _ _ hu).1
  · intro u hu'
    obtain ⟨j, hj, rfl⟩ := List.mem_iff_getElem.1 hu'
    have hj' : j < (rs L).length := by rw [rs_len]; omega
    have := hur j _ _ (List.getElem?_eq_getElem hj') (List.getElem?_eq_getElem hj)
    have hc := (rs_cells L _ (List.getElem_mem hj')).2
    generalize (rs L)[j] = x at this hc
    generalize us[j] = y at this ⊢
    cases this <;> first | rfl | cases hc
  · exact hS _ _ (hrw 0 _ (List.getElem?_eq_getElem (by omega))).1
  · intro u hu'
    obtain ⟨j, hj, rfl⟩ := List.mem_iff_getElem.1 hu'
    have hj' : j < (is (row L o)).length := by rw [is_len]; omega
    have := hrr j _ _ (List.getElem?_eq_getElem hj') (List.getElem?_eq_getElem hj)
    have hc := (is_cells _ _ (List.getElem_mem hj')).2
    generalize (is (row L o))[j] = x at this hc
    generalize rw_[j] = y at this ⊢
    cases this <;> first | rfl | cases hc
  · have hcl : ∀ b j, b < w.heap.size → ((w.alloc (.cells #[.int .i64 n, .slice (some ⟨b0, o0, none⟩) L.length cap] 24)).alloc (.cells #[.int .i64 0, .slice none 0 0] 24)).cell? ⟨b, j, none⟩ = w.cell? ⟨b, j, none⟩ := fun b j hb =>
      (World.cell?_alloc_past _ _ _ (by simp; omega)).trans (World.cell?_alloc_past _ _ _ hb)
    have hk := (ok40 n o s (rs L) ⟨⟨L, rfl, hl, hL⟩, hq.1, hq.2.1⟩).2 S _ #[.agg #[.int .i64 n, .slice (some ⟨b0, o0, none⟩) L.length cap], .int .i64 o, .int .i64 s] (fun b j hb => by have := hS b j hb; simp; omega) (glOk_keep hS hcl hgl) rfl (fun i c u hc hu => ?_)
    · refine hk.mono ?_
      rintro e w' ⟨u, rfl, hr, hb⟩
      rw [rowsOf_rs, hth] at hr
      have := hr.bool_of
      subst this
      exact ⟨rfl, by simpa using hb⟩
    · have hm : ∀ x u, RelT S w x u → RelT S ((w.alloc (.cells #[.int .i64 n, .slice (some ⟨b0, o0, none⟩) L.length cap] 24)).alloc (.cells #[.int .i64 0, .slice none 0 0] 24)) x u := fun x u h => h.mono (fun _ _ h => h) (fun b j hb => hcl b j (hS _ _ hb))
      match i with
      | 0 =>
        simp at hc hu; subst hc hu
        have := hm _ _ (ha 0 _ _ rfl rfl)
        rw [rs_len] at this
        exact this
      | 1 => simp at hc hu; subst hc hu; exact .int _ _
      | 2 => simp at hc hu; subst hc hu; exact .int _ _
      | i + 3 => simp at hc
  · intro w' g cg g2 cg2 hb hg hg' hg2 hg2' hcg hcg2 hc1 hc2 hc3 hc4
    refine ⟨_, rfl, ?_, hb⟩
    have keep : ∀ x u, RelT S w x u → RelT (fresh S w w') w' x u := fun x u h => h.mono (fun _ _ h => Or.inl h) (fun b j hb' => hb.cell (hS _ _ hb'))
    have Rrow : RelT (fresh S w w') w' (.list 1 ((is (row L o)).set s.toNat (.int .i64 v))) (.slice (some ⟨g2, 0, none⟩) (row L o).length cg2) := by
      have hlen : ((is (row L o)).set s.toNat (.int .i64 v)).length = (row L o).length := by rw [List.length_set, is_len]
      have := list_out (S := fresh S w w') (w := w') (xs := (is (row L o)).set s.toNat (.int .i64 v)) (g := g2) (cap := cg2) (fun j => if j = s.toNat then .int .i64 v else rw_.getD j (.bool false)) (by rw [hlen]; exact hcg2) (fun j hj => ⟨.inr ⟨hg2, hg2'⟩, ?_⟩) (fun x hx => ?_) (fun j x hx => ?_)
      · rw [hlen] at this; exact this
      · rw [hlen] at hj
        by_cases e : j = s.toNat
        · rw [if_pos e, e]; exact hc4
        · rw [if_neg e]
          have hj2 : j < rw_.length := by omega
          rw [List.getD_eq_getElem?_getD, List.getElem?_eq_getElem hj2]
          exact hc3 j _ (List.getElem?_eq_getElem hj2) e
      · rcases List.mem_or_eq_of_mem_set hx with h | rfl
        · exact is_cells _ _ h
        · exact ⟨rfl, rfl⟩
      · by_cases e : j = s.toNat
        · rw [if_pos e]; subst e
          rw [List.getElem?_set_self (by rw [is_len]; omega)] at hx
          injection hx with hx; subst hx; exact .int _ _
        · rw [if_neg e]
          rw [List.getElem?_set_ne (Ne.symm e)] at hx
          have hj2 : j < rw_.length := by have := (List.getElem?_eq_some_iff.1 hx).1; rw [is_len] at this; omega
          rw [List.getD_eq_getElem?_getD, List.getElem?_eq_getElem hj2]
          exact keep _ _ (hrr j x _ hx (List.getElem?_eq_getElem hj2))
    have Rall : RelT (fresh S w w') w' (.list 1 (rs (hSet L o s v))) (.slice (some ⟨g, 0, none⟩) L.length cg) := by
      have hlen : (rs (hSet L o s v)).length = L.length := by rw [rs_len]; unfold hSet; rw [List.length_set]
      have := list_out (S := fresh S w w') (w := w') (xs := rs (hSet L o s v)) (g := g) (cap := cg) (fun j => if j = (o - 1).toNat then .slice (some ⟨g2, 0, none⟩) (row L o).length cg2 else us.getD j (.bool false)) (by rw [hlen]; exact hcg) (fun j hj => ⟨.inr ⟨hg, hg'⟩, ?_⟩) (rs_cells _) (fun j x hx => ?_)
      · rw [hlen] at this; exact this
      · rw [hlen] at hj
        by_cases e : j = (o - 1).toNat
        · rw [if_pos e, e]; exact hc2
        · rw [if_neg e]
          have hj2 : j < us.length := by omega
          rw [List.getD_eq_getElem?_getD, List.getElem?_eq_getElem hj2]
          exact hc1 j _ (List.getElem?_eq_getElem hj2) e
      · rw [rs_set] at hx
        by_cases e : j = (o - 1).toNat
        · rw [if_pos e]; subst e
          rw [List.getElem?_set_self (by rw [rs_len]; omega)] at hx
          injection hx with hx; subst hx; exact Rrow
        · rw [if_neg e]
          rw [List.getElem?_set_ne (Ne.symm e)] at hx
          have hj2 : j < us.length := by have := (List.getElem?_eq_some_iff.1 hx).1; rw [rs_len] at this; omega
          rw [List.getD_eq_getElem?_getD, List.getElem?_eq_getElem hj2]
          exact keep _ _ (hur j x _ hx (List.getElem?_eq_getElem hj2))
    refine .tup _ _ rfl fun i c u hc hu => ?_
    match i with
    | 0 =>
      simp at hc hu; subst hc hu
      refine .agg _ _ rfl fun i c u hc hu => ?_
      match i with
      | 0 => simp at hc hu; subst hc hu; exact .int _ _
      | 1 => simp at hc hu; subst hc hu; exact Rall
      | i + 2 => simp at hc
    | 1 => simp at hc hu; subst hc hu; exact .bool _
    | i + 2 => simp at hc
theorem put_no (n o s v : Int) (L : List (List Int)) (hl : L.length ≤ 1048576) (hL : ∀ l ∈ L, l.length ≤ 1048576 ∧ ∀ n ∈ l, I64 n) (hq : I64 o ∧ I64 s ∧ I64 v) (hh : hPutOk L o s v = false) :
    FnOk Tryd.prog tgl 10 [.agg [.int .i64 n, .list 1 (rs L)], .int .i64 o, .int .i64 s, .int .i64 v] (.tup [.agg [.int .i64 n, .list 1 (rs L)], .bool false]) := by
  refine fn_ok (Γ := H6) env_H6 Tryd.func10 low10 ?_
  have hq1 : IsH (rs L) ∧ I64 o ∧ I64 s := ⟨⟨L, rfl, hl, hL⟩, hq.1, hq.2.1⟩
  have hc : ∀ (a : hThere L o s = true) (b : 0 ≤ v), v ≤ L.length → False := fun a b c => by
    unfold hPutOk at hh
    rw [a, decide_eq_true b, decide_eq_true c] at hh; cases hh
  conv => whnf
  repeat' (first
    | (refine brK_true rfl ?_; conv => whnf)
    | (refine brK_false rfl ?_; conv => whnf)
    | (refine brK_true (by assumption) ?_; conv => whnf)
    | (refine brK_false (by assumption) ?_; conv => whnf)
    | (refine brK_true ?_ ?_; (focus (simp only [List.length_nil, fx, rs_len, rowsOf_rs] <;> omega)); conv => whnf)
    | (refine brK_false ?_ ?_; (focus (simp only [List.length_nil, fx, rs_len, rowsOf_rs] <;> omega)); conv => whnf)
    | ((refine brK_of (fun h => ?_) (fun h => ?_)) <;> (have h2 := h; (try simp only [List.length_nil, fx, rs_len, rowsOf_rs] at h2); conv => whnf))
    | (refine reqK_of ?_ ?_; (focus (first | decide | omega | assumption | (simp only [List.length_nil, fx, rs_len, rowsOf_rs] <;> omega) | (simp [keyNew, sameKey, kEq] <;> omega))); conv => whnf)
    | (refine reqK_of ?_ ?_; rotate_left; (conv => whnf); rotate_left)
    | (refine nth_us ?_ ?_ ?_; (focus (first | omega | (simp only [List.length_nil, fx, rs_len, rowsOf_rs] <;> omega))); (focus (first | omega | (simp only [List.length_nil, fx, rs_len, rowsOf_rs] <;> omega))); conv => whnf)
    | (refine nth_is ?_ ?_ ?_; (focus (first | omega | (simp only [List.length_nil, fx, rs_len, rowsOf_rs] <;> omega))); (focus (first | omega | (simp only [List.length_nil, fx, rs_len, rowsOf_rs] <;> omega))); conv => whnf)
    | (refine nth_bs ?_ ?_ ?_; (focus (first | omega | (simp only [List.length_nil, fx, rs_len, rowsOf_rs] <;> omega))); (focus (first | omega | (simp only [List.length_nil, fx, rs_len, rowsOf_rs] <;> omega))); conv => whnf))
  all_goals (refine hc ?_ ?_ ?_ <;> assumption)
theorem ok10 (n o s v : Int) (xs : List T) (hq : IsH xs ∧ I64 o ∧ I64 s ∧ I64 v) : FnOk Tryd.prog tgl 10 [.agg [.int .i64 n, .list 1 xs], .int .i64 o, .int .i64 s, .int .i64 v] (hPut n (rowsOf xs) o s v) := by
  obtain ⟨⟨L, rfl, hl, hL⟩, hq⟩ := hq
  rw [rowsOf_rs]
  unfold hPut
  cases hh : hPutOk L o s v
  · rw [if_neg (by decide)]; exact put_no n o s v L hl hL hq hh
  · rw [if_pos rfl]; exact put_yes n o s v L hl hL hq hh (put_no 0 0 0 0 [] (by decide) (fun l h => by cases h) ⟨⟨by decide, by decide⟩, ⟨by decide, by decide⟩, ⟨by decide, by decide⟩⟩ rfl).1
open Classical in
noncomputable def c10 : List T → Ans
  | [.agg [.int .i64 n, .list 1 xs], .int .i64 o, .int .i64 s, .int .i64 v] => .req (IsH xs ∧ I64 o ∧ I64 s ∧ I64 v) (hPut n (rowsOf xs) o s v)
  | _ => .no
theorem got10 {vs : List T} {x : T} (h : Got (c10 vs) x) : FnOk Tryd.prog tgl 10 vs x := by
  unfold c10 at h
  split at h
  · obtain ⟨hq, e⟩ := got_req h; rw [e]; exact ok10 _ _ _ _ _ hq
  · exact (got_no h).elim
theorem nogl10 (vs : List T) (p : Prop) (d : Decidable p) (sz : Nat) (xs : List T) (h : c10 vs = @Ans.gl p d sz xs) : False := by
  unfold c10 at h
  split at h <;> cases h
theorem pk10 (vs : List T) (p : Prop) (d : Decidable p) (x : T) (h : c10 vs = @Ans.pk p d x) (hp : p) : FnOk Tryd.prog tgl 10 vs x := by
  unfold c10 at h
  split at h
  · cases h
  · cases h
end Go.Nx
end
section
set_option linter.unusedVariables false
set_option linter.unusedSimpArgs false
set_option maxRecDepth 100000
set_option maxHeartbeats 4000000
namespace Go.Nx
open Go Go.RowKit Go.Proofs

theorem ok23 (t : ByteArray) (hq : t.size ≤ 1048576) : FnOk Tryd.prog tgl 23 [.str t] (hAns t) := by
  exact parse_run t hq
open Classical in
noncomputable def c23 : List T → Ans
  | [.str t] => .req (t.size ≤ 1048576) (hAns t)
  | _ => .no
theorem got23 {vs : List T} {x : T} (h : Got (c23 vs) x) : FnOk Tryd.prog tgl 23 vs x := by
  unfold c23 at h
  split at h
  · obtain ⟨hq, e⟩ := got_req h; rw [e]; exact ok23 _ hq
  · exact (got_no h).elim
theorem nogl23 (vs : List T) (p : Prop) (d : Decidable p) (sz : Nat) (xs : List T) (h : c23 vs = @Ans.gl p d sz xs) : False := by
  unfold c23 at h
  split at h <;> cases h
theorem pk23 (vs : List T) (p : Prop) (d : Decidable p) (x : T) (h : c23 vs = @Ans.pk p d x) (hp : p) : FnOk Tryd.prog tgl 23 vs x := by
  unfold c23 at h
  split at h
  · cases h
  · cases h
theorem alloc_nil (n most : Int) (hm : I64 most) : FnOk Tryd.prog tgl 21 [.agg [.int .i64 n, .nils], .int .i64 most] (hAl n [] most) := by
  have h := ok21 n most (rs []) ⟨⟨[], rfl, by decide, fun l h => by cases h⟩, hm⟩
  rw [rowsOf_rs] at h
  refine ⟨h.1, fun S w args hS hgl hn ha => h.2 S w args hS hgl hn fun i c u hc hu => ?_⟩
  match i with
  | 0 => simp at hc; subst hc; exact agg_nil _ _ _ (ha 0 _ u rfl hu)
  | 1 => simp at hc; subst hc; exact ha 1 _ u rfl hu
  | i + 2 => simp at hc
def inI (n : Int) : Bool := decide (-9223372036854775808 ≤ n ∧ n < 9223372036854775808)
theorem inI_ok {n : Int} (h : inI n = true) : I64 n := by
  unfold inI at h
  have := of_decide_eq_true h
  unfold I64
  omega
def isInt : T → Bool
  | .int .i64 n => inI n
  | _ => false
def isRow : T → Bool
  | .list 1 ys => ys.all isInt && Nat.ble ys.length 1000
  | _ => false
def isHB (xs : List T) : Bool := xs.all isRow && Nat.ble xs.length 1000
theorem isHB_ok {xs : List T} (h : isHB xs = true) : IsH xs := by
  unfold isHB at h
  rw [Bool.and_eq_true, List.all_eq_true] at h
  have hl := Nat.le_of_ble_eq_true h.2
  have key : ∀ x ∈ xs, ∃ l, x = .list 1 (is l) ∧ l.length ≤ 1000 ∧ ∀ n ∈ l, I64 n := fun x hx => by
    have := h.1 x hx
    unfold isRow at this
    split at this
    · rename_i ys
      rw [Bool.and_eq_true, List.all_eq_true] at this
      have k2 : ∀ y ∈ ys, ∃ n, y = .int .i64 n ∧ I64 n := fun y hy => by
        have := this.1 y hy
        unfold isInt at this
        split at this
        · rename_i n
          exact ⟨n, rfl, inI_ok this⟩
        · cases this
      have k3 : ys = is (nums ys) ∧ ∀ n ∈ nums ys, I64 n := by
        clear this hx
        induction ys with
        | nil => exact ⟨rfl, fun n h => by cases h⟩
        | cons y r ih =>
          obtain ⟨n, rfl, hn⟩ := k2 y (by simp)
          obtain ⟨e, hr⟩ := ih (fun y hy => k2 y (by simp [hy]))
          refine ⟨?_, ?_⟩
          · exact congrArg (T.int .i64 n :: ·) e
          · intro m hm
            rcases List.mem_cons.1 (show m ∈ n :: nums r from hm) with rfl | h
            · exact hn
            · exact hr _ h
      refine ⟨nums ys, by rw [← k3.1], ?_, k3.2⟩
      have := Nat.le_of_ble_eq_true this.2
      have e := congrArg List.length k3.1
      rw [is_len] at e
      omega
    · cases this
  refine ⟨rowsOf xs, ?_, ?_, ?_⟩
  · clear h hl
    induction xs with
    | nil => rfl
    | cons x r ih =>
      obtain ⟨l, rfl, _⟩ := key x (by simp)
      have := ih (fun x hx => key x (by simp [hx]))
      show _ :: r = .list 1 (is (nums (is l))) :: rs (rowsOf r)
      rw [nums_is, ← this]
  · unfold rowsOf; rw [List.length_map]; omega
  · intro l hl'
    unfold rowsOf at hl'
    obtain ⟨x, hx, rfl⟩ := List.mem_map.1 hl'
    obtain ⟨l, rfl, h1, h2⟩ := key x hx
    have e : nums (is l) = l := nums_is l
    show (nums (is l)).length ≤ _ ∧ ∀ n ∈ nums (is l), I64 n
    rw [e]
    exact ⟨by omega, h2⟩
def extH (f : Nat) (ts : List T) : Ans := match Nat.beq f 9 with
  | true => match ts with
    | [.agg [.int .i64 n, .list 1 xs], .int .i64 o, .int .i64 s] => match isHB xs && inI o && inI s with
      | true => .yes (.tup [.int .i64 (hGet (rowsOf xs) o s), .bool (hThere (rowsOf xs) o s)])
      | false => .no
    | _ => .no
  | false => match Nat.beq f 10 with
    | true => match ts with
      | [.agg [.int .i64 n, .list 1 xs], .int .i64 o, .int .i64 s, .int .i64 v] => match isHB xs && inI o && inI s && inI v with
        | true => .yes (hPut n (rowsOf xs) o s v)
        | false => .no
      | _ => .no
    | false => match Nat.beq f 21 with
      | true => match ts with
        | [.agg [.int .i64 n, .list 1 xs], .int .i64 most] => match isHB xs && inI most with
          | true => .yes (hAl n (rowsOf xs) most)
          | false => .no
        | [.agg [.int .i64 n, .nils], .int .i64 most] => match inI most with
          | true => .yes (hAl n [] most)
          | false => .no
        | _ => .no
      | false => match Nat.beq f 23 with
        | true => match ts with
          | [.str t] => match Nat.ble t.size 1000 with
            | true => .yes (hAns t)
            | false => .no
          | _ => .no
        | false => match Nat.beq f 29 with
          | true => match ts with
            | [.agg [.int .i64 n, .list 1 xs]] => match isHB xs with
              | true => .yes (.str (hTxt n (rowsOf xs)))
              | false => .no
            | [.agg [.int .i64 n, .nils]] => .yes (.str (hTxt n []))
            | _ => .no
          | false => match Nat.beq f 7 with
            | true => match ts with
              | [.agg [.int .i64 n, .list 1 xs]] => match isHB xs with
                | true => .yes (.bool (hRight n (rowsOf xs)))
                | false => .no
              | _ => .no
            | false => match Nat.beq f 27 with
              | true => match ts with
                | [.agg [.int .i64 n, .list 1 xs], .agg [.int .i64 m, .list 1 ys]] => match isHB xs && isHB ys with
                  | true => .yes (.bool (hSame n m (rowsOf xs) (rowsOf ys)))
                  | false => .no
                | _ => .no
              | false => .no
theorem extH_ok : ExtOk Tryd.prog tgl extH := by
  refine ⟨fun f vs x h0 => ?_, fun f vs p d sz xs h hp => ?_, fun f vs p d x h hp => ?_⟩
  · have h : extH f vs = .yes x := by
      rcases h0 with h | ⟨p, d, h, _⟩
      · exact h
      · exfalso
        unfold extH at h
        repeat' (split at h)
        all_goals cases h
    clear h0
    unfold extH at h
    split at h
    · rename_i hf
      obtain rfl := Nat.eq_of_beq_eq_true hf
      split at h
      · split at h
        · rename_i hd
          cases h
          simp only [Bool.and_eq_true] at hd
          exact ok9 _ _ _ _ ⟨isHB_ok hd.1.1, inI_ok hd.1.2, inI_ok hd.2⟩
        · cases h
      · cases h
    · split at h
      · rename_i hf
        obtain rfl := Nat.eq_of_beq_eq_true hf
        split at h
        · split at h
          · rename_i hd
            cases h
            simp only [Bool.and_eq_true] at hd
            exact ok10 _ _ _ _ _ ⟨isHB_ok hd.1.1.1, inI_ok hd.1.1.2, inI_ok hd.1.2, inI_ok hd.2⟩
          · cases h
        · cases h
      · split at h
        · rename_i hf
          obtain rfl := Nat.eq_of_beq_eq_true hf
          split at h
          · split at h
            · rename_i hd
              cases h
              simp only [Bool.and_eq_true] at hd
              exact ok21 _ _ _ ⟨isHB_ok hd.1, inI_ok hd.2⟩
            · cases h
          · split at h
            · rename_i hd
              cases h
              exact alloc_nil _ _ (inI_ok hd)
            · cases h
          · cases h
        · split at h
          · rename_i hf
            obtain rfl := Nat.eq_of_beq_eq_true hf
            split at h
            · split at h
              · rename_i hd
                cases h
                exact parse_run _ (Nat.le_trans (Nat.le_of_ble_eq_true hd) (by decide))
              · cases h
            · cases h
          · split at h
            · rename_i hf
              obtain rfl := Nat.eq_of_beq_eq_true hf
              split at h
              · split at h
                · rename_i hd
                  cases h
                  exact ok29 _ _ (isHB_ok hd)
                · cases h
              · cases h
                exact FnOk.args (ok29 _ [] isH_nil) rfl fun i c c' hc hc' S w u hu => by
                  match i with
                  | 0 => simp at hc hc'; subst hc hc'; exact agg_nil _ _ _ hu
                  | i + 1 => simp at hc
              · cases h
            · split at h
              · rename_i hf
                obtain rfl := Nat.eq_of_beq_eq_true hf
                split at h
                · split at h
                  · rename_i hd
                    cases h
                    exact ok7 _ _ (isHB_ok hd)
                  · cases h
                · cases h
              · split at h
                · rename_i hf
                  obtain rfl := Nat.eq_of_beq_eq_true hf
                  split at h
                  · split at h
                    · rename_i hd
                      cases h
                      rw [Bool.and_eq_true] at hd
                      exact ok27 _ _ _ _ ⟨isHB_ok hd.1, isHB_ok hd.2⟩
                    · cases h
                  · cases h
                · cases h
  · exfalso
    unfold extH at h
    repeat' (split at h)
    all_goals cases h
  · exfalso
    unfold extH at h
    repeat' (split at h)
    all_goals cases h
noncomputable def tabH : List (Nat × Nat × MFn) := [(17, 0, m17)]
theorem tabH_ok : ∀ p ∈ tabH, ∃ fn, Tryd.prog.funcs[p.1]? = some fn ∧ lowFn Tryd.prog fn = some p.2.2 := (tab_cons ⟨_, Tryd.func17, low17⟩ tab_nil)
theorem ok17 : FnOk Tryd.prog tgl 17 [] (.bool true) := ev_ok (ext := extH) (tab := tabH) (fuel := 3000) (d := 40) extH_ok tabH_ok (by kernel_rfl)
open Classical in
noncomputable def c17 : List T → Ans
  | [] => .yes (.bool true)
  | _ => .no
theorem got17 {vs : List T} {x : T} (h : Got (c17 vs) x) : FnOk Tryd.prog tgl 17 vs x := by
  unfold c17 at h
  split at h
  · rw [got_yes h]; exact ok17
  · exact (got_no h).elim
theorem nogl17 (vs : List T) (p : Prop) (d : Decidable p) (sz : Nat) (xs : List T) (h : c17 vs = @Ans.gl p d sz xs) : False := by
  unfold c17 at h
  split at h <;> cases h
theorem pk17 (vs : List T) (p : Prop) (d : Decidable p) (x : T) (h : c17 vs = @Ans.pk p d x) (hp : p) : FnOk Tryd.prog tgl 17 vs x := by
  unfold c17 at h
  split at h <;> cases h
end Go.Nx
end
section
set_option linter.unusedVariables false
set_option linter.unusedSimpArgs false
set_option maxRecDepth 20000
set_option maxHeartbeats 4000000
namespace Go.Nx
open Go Go.RowKit Go.Proofs

def bt (n : Int) : UInt8 := UInt8.ofNat n.toNat
def lastP (c : UInt8) (l : List UInt8) : List UInt8 := (spl c l).getLastD []
theorem spl_snoc (c x : UInt8) : ∀ l : List UInt8, spl c (l ++ [x]) = if x = c then spl c l ++ [[]] else (spl c l).dropLast ++ [lastP c l ++ [x]]
  | [] => by
    by_cases h : x = c
    · simp [spl, h]
    · simp [spl, h, lastP]
  | b :: l => by
    have ih := spl_snoc c x l
    have hne := spl_ne c l
    obtain ⟨p, r, e⟩ : ∃ p r, spl c l = p :: r := by
      cases h : spl c l with
      | nil => exact absurd h hne
      | cons p r => exact ⟨p, r, rfl⟩
    by_cases hb : b = c
    · rw [List.cons_append, spl, if_pos hb, ih]
      by_cases hx : x = c
      · rw [if_pos hx, if_pos hx, spl, if_pos hb]; rfl
      · rw [if_neg hx, if_neg hx, spl, if_pos hb]
        unfold lastP
        rw [spl, if_pos hb, e]
        simp
    · rw [List.cons_append, spl, if_neg hb, ih]
      by_cases hx : x = c
      · rw [if_pos hx, if_pos hx, spl, if_neg hb, e]; rfl
      · rw [if_neg hx, if_neg hx, spl, if_neg hb]
        unfold lastP
        rw [spl, if_neg hb, e]
        cases r with
        | nil => simp
        | cons q r => simp
theorem lastP_len (c : UInt8) (l : List UInt8) : (lastP c l).length ≤ l.length := by
  unfold lastP
  cases h : (spl c l).getLast? with
  | none => rw [List.getLastD_eq_getLast?, h]; simp
  | some p => rw [List.getLastD_eq_getLast?, h]; exact spl_piece c (List.mem_of_getLast? h)
theorem last_suf (c : UInt8) (l : List UInt8) : ∃ p, l = p ++ lastP c l := by
  suffices h : ∀ r : List UInt8, ∃ p, r.reverse = p ++ lastP c r.reverse by
    have := h l.reverse; rwa [List.reverse_reverse] at this
  intro r
  induction r with
  | nil => exact ⟨[], rfl⟩
  | cons x r ih =>
    obtain ⟨p, hp⟩ := ih
    rw [List.reverse_cons]
    by_cases hx : x = c
    · refine ⟨r.reverse ++ [x], ?_⟩
      have : lastP c (r.reverse ++ [x]) = [] := by unfold lastP; rw [spl_snoc, if_pos hx]; simp
      rw [this, List.append_nil]
    · refine ⟨p, ?_⟩
      have : lastP c (r.reverse ++ [x]) = lastP c r.reverse ++ [x] := by
        show (spl c (r.reverse ++ [x])).getLastD [] = _
        rw [spl_snoc, if_neg hx]; simp
      rw [this, ← List.append_assoc, ← hp]
theorem last_drop (c : UInt8) (l : List UInt8) : l.drop (l.length - (lastP c l).length) = lastP c l := by
  obtain ⟨p, hp⟩ := last_suf c l
  generalize lastP c l = q at hp
  subst hp
  rw [List.length_append, Nat.add_sub_cancel]
  simp
theorem spl_last (c : UInt8) (l : List UInt8) : (spl c l).dropLast ++ [lastP c l] = spl c l := by
  unfold lastP
  have h := List.dropLast_concat_getLast (spl_ne c l)
  rw [List.getLastD_eq_getLast?, List.getLast?_eq_some_getLast (spl_ne c l)]
  exact h
def cutF (c : UInt8) (l : List UInt8) (k : Nat) : Nat := if k ≤ l.length then k - (lastP c (l.take k)).length else l.length + 1
def cutL (c : UInt8) (l : List UInt8) (k : Nat) : List (List UInt8) := if k ≤ l.length then (spl c (l.take k)).dropLast else spl c l
theorem cutF_le (c : UInt8) (l : List UInt8) {k : Nat} (h : k ≤ l.length) : cutF c l k ≤ k := by unfold cutF; rw [if_pos h]; omega
theorem cutL_len (c : UInt8) (l : List UInt8) {k : Nat} (h : k ≤ l.length) : (cutL c l k).length ≤ k := by
  unfold cutL
  rw [if_pos h, List.length_dropLast, spl_len, Nat.add_sub_cancel]
  have := List.count_le_length (a := c) (l := l.take k)
  rw [List.length_take] at this
  omega
theorem cut_sub {c : UInt8} {s : ByteArray} {k : Nat} (h : k ≤ s.data.toList.length) : s.extract (cutF c s.data.toList k) k = ⟨(lastP c (s.data.toList.take k)).toArray⟩ := by
  have h1 := last_drop c (s.data.toList.take k)
  rw [List.length_take, Nat.min_eq_left h] at h1
  have h2 : (s.extract (cutF c s.data.toList k) k).data.toList = lastP c (s.data.toList.take k) := by
    rw [ByteArray.data_extract, Array.toList_extract, ← h1]
    unfold cutF
    rw [if_pos h]
    simp [List.extract, List.drop_take]
  have : ∀ b : ByteArray, ∀ q, b.data.toList = q → b = ⟨q.toArray⟩ := fun b q e => by cases b; subst e; rfl
  exact this _ _ h2
theorem cut_hit {c : UInt8} {l : List UInt8} {k : Nat} (h : k = l.length ∨ (k < l.length ∧ l.getD k 0 = c)) : cutL c l k ++ [lastP c (l.take k)] = cutL c l (k + 1) ∧ cutF c l (k + 1) = k + 1 := by
  have hk : k ≤ l.length := by omega
  have h1 : cutL c l k ++ [lastP c (l.take k)] = spl c (l.take k) := by unfold cutL; rw [if_pos hk, spl_last]
  rw [h1]
  rcases h with rfl | ⟨h2, h3⟩
  · unfold cutL cutF
    rw [if_neg (by omega), if_neg (by omega), List.take_length]
    exact ⟨rfl, rfl⟩
  · have e : l.take (k + 1) = l.take k ++ [c] := by
      rw [List.take_add_one, List.getElem?_eq_getElem h2]
      rw [List.getD_eq_getElem?_getD, List.getElem?_eq_getElem h2] at h3
      simp at h3; rw [h3]; rfl
    unfold cutL cutF lastP
    rw [if_pos (by omega), if_pos (by omega), e, spl_snoc, if_pos rfl]
    simp
theorem cut_miss {c : UInt8} {l : List UInt8} {k : Nat} (h2 : k < l.length) (h3 : l.getD k 0 ≠ c) : cutL c l (k + 1) = cutL c l k ∧ cutF c l (k + 1) = cutF c l k := by
  have e : l.take (k + 1) = l.take k ++ [l.getD k 0] := by
    rw [List.take_add_one, List.getElem?_eq_getElem h2, List.getD_eq_getElem?_getD, List.getElem?_eq_getElem h2]; rfl
  have hl := lastP_len c (l.take k)
  rw [List.length_take, Nat.min_eq_left (by omega)] at hl
  have hlast : lastP c (l.take (k + 1)) = lastP c (l.take k) ++ [l.getD k 0] := by
    rw [e]
    show (spl c _).getLastD [] = _
    rw [spl_snoc, if_neg h3]; simp
  unfold cutL cutF
  rw [if_pos (by omega), if_pos (by omega), if_pos (by omega), if_pos (by omega), hlast, e, spl_snoc, if_neg h3]
  refine ⟨by simp, ?_⟩
  rw [List.length_append, List.length_cons, List.length_nil]; omega
theorem bt_eq {x : UInt8} {c : Int} (hc : 0 ≤ c ∧ c < 256) : ((x.toNat : Nat) : Int) = c ↔ x = bt c := by
  unfold bt
  constructor
  · intro h
    apply UInt8.toNat_inj.1
    rw [UInt8.toNat_ofNat']
    omega
  · intro h
    have := congrArg UInt8.toNat h
    rw [UInt8.toNat_ofNat'] at this
    omega
theorem sz_list (s : ByteArray) : s.size = s.data.toList.length := by rw [Array.length_toList]; rfl
theorem cut_snoc {c : UInt8} {s : ByteArray} {k : Nat} (h : k = s.data.toList.length ∨ (k < s.data.toList.length ∧ s.data.toList.getD k 0 = c)) :
    ss (cutL c s.data.toList k) ++ [T.str (s.extract (cutF c s.data.toList k) k)] = ss (cutL c s.data.toList (k + 1)) := by
  rw [cut_sub (by omega), ← (cut_hit h).1]
  unfold ss
  rw [List.map_append]; rfl
theorem ok60 (s : ByteArray) (c : Int) (hq : s.size ≤ 1048576 ∧ 0 ≤ c ∧ c < 256) : FnGl Tryd.prog tgl 60 [.str s, .int .u8 c] 1 (ss (spl (bt c) s.data.toList)) := by
  refine fnG_ok (Γ := H14) env_H14 Tryd.func60 low60 ?_
  obtain ⟨hs, hc⟩ := hq
  have hsz := sz_list s
  conv => whnf
  repeat' (first
    | (refine brK_true rfl ?_; conv => whnf)
    | (refine brK_false rfl ?_; conv => whnf)
    | (refine brK_true (by assumption) ?_; conv => whnf)
    | (refine brK_false (by assumption) ?_; conv => whnf)
    | (refine brK_true ?_ ?_; (focus (simp only [List.length_nil, fx] <;> omega)); conv => whnf)
    | (refine brK_false ?_ ?_; (focus (simp only [List.length_nil, fx] <;> omega)); conv => whnf)
    | ((refine brK_of (fun h => ?_) (fun h => ?_)) <;> (have h2 := h; (try simp only [List.length_nil, fx] at h2); conv => whnf))
    | (refine reqK_of ?_ ?_; (focus (first | decide | omega | assumption | (simp only [List.length_nil, fx] <;> omega) | (simp [keyNew, sameKey, kEq] <;> omega))); conv => whnf)
    | (refine reqK_of ?_ ?_; rotate_left; (conv => whnf); rotate_left)
    | (refine nth_us ?_ ?_ ?_; (focus (first | omega | (simp only [List.length_nil, fx] <;> omega))); (focus (first | omega | (simp only [List.length_nil, fx] <;> omega))); conv => whnf)
    | (refine nth_is ?_ ?_ ?_; (focus (first | omega | (simp only [List.length_nil, fx] <;> omega))); (focus (first | omega | (simp only [List.length_nil, fx] <;> omega))); conv => whnf)
    | (refine nth_bs ?_ ?_ ?_; (focus (first | omega | (simp only [List.length_nil, fx] <;> omega))); (focus (first | omega | (simp only [List.length_nil, fx] <;> omega))); conv => whnf))
  refine loopFn [.adopt 5 1001 1] (fun s => nzIf 95 s [.kill 8, .kill 9, .kill 10, .kill 11, .kill 12, .kill 13, .kill 14, .kill 15, .kill 16, .kill 17, .kill 18, .kill 19, .kill 20, .kill 21, .kill 22, .kill 23, .kill 24, .kill 25, .kill 26, .kill 27, .kill 28, .kill 29, .kill 30, .kill 31, .kill 32, .kill 33, .keep [95], .ren 95 1001] [.kill 8, .kill 9, .kill 10, .kill 11, .kill 12, .kill 13, .kill 14, .kill 15, .kill 16, .kill 17, .kill 18, .kill 19, .kill 20, .kill 21, .kill 22, .kill 23, .kill 24, .kill 25, .kill 26, .kill 27, .kill 28, .kill 29, .kill 30, .kill 31, .kill 32, .kill 33]) (fun k : Nat => [(5, .sl 1001 0 none), (6, .t (.int .i64 (cutF (bt c) s.data.toList k : Nat))), (7, .t (.int .i64 (k : Int)))]) (fun k => [(1001, .lst 1 (ss (cutL (bt c) s.data.toList k)) 1)]) (fun k => k ≤ s.size + 1) (fun k => s.size + 1 - k) 0 (Nat.zero_le _) ?_
  conv => whnf
  refine ⟨⟨rfl, rfl⟩, fun k hk C hC => ?_⟩
  have hw : IntKind.i64.wrap ((k : Int) + 1) = (k : Int) + 1 := wrap_i64 ⟨by omega, by omega⟩
  conv => whnf
  repeat' (first
    | (refine brK_true rfl ?_; conv => whnf)
    | (refine brK_false rfl ?_; conv => whnf)
    | (refine brK_true (by assumption) ?_; conv => whnf)
    | (refine brK_false (by assumption) ?_; conv => whnf)
    | (refine brK_true ?_ ?_; (focus (simp only [List.length_nil, fx] <;> omega)); conv => whnf)
    | (refine brK_false ?_ ?_; (focus (simp only [List.length_nil, fx] <;> omega)); conv => whnf)
    | ((refine brK_of (fun h => ?_) (fun h => ?_)) <;> (have h2 := h; (try simp only [List.length_nil, fx] at h2); conv => whnf))
    | (refine reqK_of ?_ ?_; (focus (first | decide | omega | assumption | (simp only [List.length_nil, fx] <;> omega) | (simp [keyNew, sameKey, kEq] <;> omega))); conv => whnf)
    | (refine reqK_of ?_ ?_; rotate_left; (conv => whnf); rotate_left)
    | (refine nth_us ?_ ?_ ?_; (focus (first | omega | (simp only [List.length_nil, fx] <;> omega))); (focus (first | omega | (simp only [List.length_nil, fx] <;> omega))); conv => whnf)
    | (refine nth_is ?_ ?_ ?_; (focus (first | omega | (simp only [List.length_nil, fx] <;> omega))); (focus (first | omega | (simp only [List.length_nil, fx] <;> omega))); conv => whnf)
    | (refine nth_bs ?_ ?_ ?_; (focus (first | omega | (simp only [List.length_nil, fx] <;> omega))); (focus (first | omega | (simp only [List.length_nil, fx] <;> omega))); conv => whnf))
  · have hF := cutF_le (bt c) s.data.toList (k := k) (by omega)
    show (0 : Int) ≤ ((cutF (bt c) s.data.toList k : Nat) : Int) ∧ ((cutF (bt c) s.data.toList k : Nat) : Int) ≤ (k : Int) ∧ (k : Int) ≤ s.size
    omega
  · have hL := cutL_len (bt c) s.data.toList (k := k) (by omega)
    show ((ss _).length + 1) * 16 ≤ maxBytes
    rw [ss_len]; unfold maxBytes; omega
  · have hh : k = s.data.toList.length ∨ (k < s.data.toList.length ∧ s.data.toList.getD k 0 = bt c) := .inl (by omega)
    refine loopC (hC (k + 1) (by omega) (by omega)) ?_
    rw [← cut_snoc hh, (cut_hit hh).2, hw, Int.natCast_succ]; rfl
  · have hF := cutF_le (bt c) s.data.toList (k := k) (by omega)
    show (0 : Int) ≤ ((cutF (bt c) s.data.toList k : Nat) : Int) ∧ ((cutF (bt c) s.data.toList k : Nat) : Int) ≤ (k : Int) ∧ (k : Int) ≤ s.size
    omega
  · have hL := cutL_len (bt c) s.data.toList (k := k) (by omega)
    show ((ss _).length + 1) * 16 ≤ maxBytes
    rw [ss_len]; unfold maxBytes; omega
  · have hx : s.data.toList.getD k 0 = bt c := (bt_eq hc).1 (by assumption)
    have hh : k = s.data.toList.length ∨ (k < s.data.toList.length ∧ s.data.toList.getD k 0 = bt c) := .inr ⟨by omega, hx⟩
    refine loopC (hC (k + 1) (by omega) (by omega)) ?_
    rw [← cut_snoc hh, (cut_hit hh).2, hw, Int.natCast_succ]; rfl
  · have hx : s.data.toList.getD k 0 ≠ bt c := fun e => absurd ((bt_eq hc).2 e) (by assumption)
    obtain ⟨e1, e2⟩ := cut_miss (c := bt c) (l := s.data.toList) (k := k) (by omega) hx
    refine loopC (hC (k + 1) (by omega) (by omega)) ?_
    rw [e1, e2, hw, Int.natCast_succ]; rfl
  · have : ¬ k ≤ s.data.toList.length := by omega
    unfold cutL
    rw [if_neg this]
open Classical in
noncomputable def c60 : List T → Ans
  | [.str s, .int .u8 c] => .gl (s.size ≤ 1048576 ∧ 0 ≤ c ∧ c < 256) 1 (ss (spl (bt c) s.data.toList))
  | _ => .no
theorem got60 {vs : List T} {x : T} (h : Got (c60 vs) x) : FnOk Tryd.prog tgl 60 vs x := by
  unfold c60 at h
  split at h
  · exact (got_gl h).elim
  · exact (got_no h).elim
theorem gl60 (vs : List T) (p : Prop) (d : Decidable p) (sz : Nat) (xs : List T) (h : c60 vs = @Ans.gl p d sz xs) (hp : p) : FnGl Tryd.prog tgl 60 vs sz xs := by
  unfold c60 at h
  split at h
  · cases h; exact ok60 _ _ hp
  · cases h
theorem pk60 (vs : List T) (p : Prop) (d : Decidable p) (x : T) (h : c60 vs = @Ans.pk p d x) (hp : p) : FnOk Tryd.prog tgl 60 vs x := by
  unfold c60 at h
  split at h <;> cases h

def digB (b : UInt8) : Bool := decide (48 ≤ b.toNat) && decide (b.toNat ≤ 57)
def decV (l : List UInt8) : Nat := l.foldl (fun a b => a * 10 + (b.toNat - 48)) 0
theorem decV_snoc (l : List UInt8) (b : UInt8) : decV (l ++ [b]) = decV l * 10 + (b.toNat - 48) := by unfold decV; rw [List.foldl_append]; rfl
theorem decV_lt : ∀ l : List UInt8, l.all digB = true → decV l < 10 ^ l.length := by
  intro l
  suffices h : ∀ r : List UInt8, r.reverse.all digB = true → decV r.reverse < 10 ^ r.length by
    intro hl; have := h l.reverse; rw [List.reverse_reverse, List.length_reverse] at this; exact this hl
  intro r
  induction r with
  | nil => intro _; decide
  | cons x r ih =>
    intro hr
    rw [List.reverse_cons, List.all_append, Bool.and_eq_true] at hr
    have h1 := ih hr.1
    have h2 := hr.2
    simp only [List.all_cons, List.all_nil, Bool.and_true, digB, Bool.and_eq_true, decide_eq_true_eq] at h2
    rw [List.reverse_cons, decV_snoc, List.length_cons, Nat.pow_succ]
    omega
def numD (s : ByteArray) : Int :=
  if (1 ≤ s.size ∧ s.size ≤ 7) ∧ s.data.toList.all digB = true ∧ decV s.data.toList ≤ 1000000 ∧ dig (decV s.data.toList : Nat) = s then (decV s.data.toList : Nat) else -1
theorem wr10 : ∀ b : Nat, b < 58 → 48 ≤ b → IntKind.i64.wrap (IntKind.u8.wrap ((b : Int) - 48)) = (((b - 48 : Nat)) : Int) := by decide +kernel
theorem numD_bad {s : ByteArray} {k : Nat} (hk : k < s.data.toList.length) (hx : digB (s.data.toList.getD k 0) = false) : numD s = -1 := by
  unfold numD
  rw [if_neg]
  rintro ⟨_, h, _⟩
  have := List.all_eq_true.1 h (s.data.toList.getD k 0) (by rw [List.getD_eq_getElem?_getD, List.getElem?_eq_getElem hk]; exact List.getElem_mem _)
  rw [hx] at this; cases this
theorem ok61 (s : ByteArray) (hq : s.size ≤ 1048576) : FnOk Tryd.prog tgl 61 [.str s] (.int .i64 (numD s)) := by
  refine fn_ok (Γ := H14) env_H14 Tryd.func61 low61 ?_
  have hsz := sz_list s
  obtain ⟨l, hl⟩ : ∃ l, l = s.data.toList := ⟨_, rfl⟩
  rw [← hl] at hsz
  by_cases h7 : 1 ≤ s.size ∧ s.size ≤ 7
  · conv => whnf
    repeat' (first
      | (refine brK_true rfl ?_; conv => whnf)
      | (refine brK_false rfl ?_; conv => whnf)
      | (refine brK_true (by assumption) ?_; conv => whnf)
      | (refine brK_false (by assumption) ?_; conv => whnf)
      | (refine brK_true ?_ ?_; (focus (simp only [List.length_nil, fx] <;> omega)); conv => whnf)
      | (refine brK_false ?_ ?_; (focus (simp only [List.length_nil, fx] <;> omega)); conv => whnf)
      | ((refine brK_of (fun h => ?_) (fun h => ?_)) <;> (have h2 := h; (try simp only [List.length_nil, fx] at h2); conv => whnf))
      | (refine reqK_of ?_ ?_; (focus (first | decide | omega | assumption | (simp only [List.length_nil, fx] <;> omega) | (simp [keyNew, sameKey, kEq] <;> omega))); conv => whnf)
      | (refine reqK_of ?_ ?_; rotate_left; (conv => whnf); rotate_left)
      | (refine nth_us ?_ ?_ ?_; (focus (first | omega | (simp only [List.length_nil, fx] <;> omega))); (focus (first | omega | (simp only [List.length_nil, fx] <;> omega))); conv => whnf)
      | (refine nth_is ?_ ?_ ?_; (focus (first | omega | (simp only [List.length_nil, fx] <;> omega))); (focus (first | omega | (simp only [List.length_nil, fx] <;> omega))); conv => whnf)
      | (refine nth_bs ?_ ?_ ?_; (focus (first | omega | (simp only [List.length_nil, fx] <;> omega))); (focus (first | omega | (simp only [List.length_nil, fx] <;> omega))); conv => whnf))
    refine loopUp [] [.kill 13, .kill 14, .kill 15, .kill 16, .kill 17, .kill 18, .kill 19, .kill 20, .kill 21, .kill 22, .kill 23, .kill 24, .kill 25, .kill 26, .kill 27, .kill 28, .kill 29, .kill 30, .kill 31, .kill 32, .kill 33, .kill 34, .kill 35, .kill 36] (fun k : Nat => [(3, .t (.int .i64 (decV (l.take k) : Nat))), (4, .t (.int .i64 (k : Int)))]) (fun _ => []) (fun k => k ≤ l.length ∧ (l.take k).all digB = true) (fun k => l.length - k) 0 ⟨Nat.zero_le _, rfl⟩ ?_
    conv => whnf
    refine ⟨⟨rfl, rfl⟩, fun k hk C hC => ?_⟩
    obtain ⟨hk1, hk2⟩ := hk
    have hw : IntKind.i64.wrap ((k : Int) + 1) = (k : Int) + 1 := wrap_i64 ⟨by omega, by omega⟩
    have hlt := decV_lt (l.take k) hk2
    have hpw : 10 ^ (l.take k).length ≤ 10 ^ 7 := Nat.pow_le_pow_right (by decide) (by rw [List.length_take]; omega)
    have hx : (s.data.toList.getD ((k : Int).toNat) 0) = l.getD k 0 := by rw [hl, Int.toNat_natCast]
    obtain ⟨x, hxe⟩ : ∃ x, x = l.getD k 0 := ⟨_, rfl⟩
    rw [← hxe] at hx
    have htk : k < l.length → l.take (k + 1) = l.take k ++ [x] := fun h => by
      rw [List.take_add_one, hxe, List.getD_eq_getElem?_getD, List.getElem?_eq_getElem h]; rfl
    conv => whnf
    repeat' (first
      | (refine brK_true rfl ?_; conv => whnf)
      | (refine brK_false rfl ?_; conv => whnf)
      | (refine brK_true (by assumption) ?_; conv => whnf)
      | (refine brK_false (by assumption) ?_; conv => whnf)
      | (refine brK_true ?_ ?_; (focus (simp only [List.length_nil, fx, hx] <;> omega)); conv => whnf)
      | (refine brK_false ?_ ?_; (focus (simp only [List.length_nil, fx, hx] <;> omega)); conv => whnf)
      | ((refine brK_of (fun h => ?_) (fun h => ?_)) <;> (have h2 := h; (try simp only [List.length_nil, fx, hx] at h2); conv => whnf))
      | (refine reqK_of ?_ ?_; (focus (first | decide | omega | assumption | (simp only [List.length_nil, fx, hx] <;> omega) | (simp [keyNew, sameKey, kEq] <;> omega))); conv => whnf)
      | (refine reqK_of ?_ ?_; rotate_left; (conv => whnf); rotate_left)
      | (refine nth_us ?_ ?_ ?_; (focus (first | omega | (simp only [List.length_nil, fx, hx] <;> omega))); (focus (first | omega | (simp only [List.length_nil, fx, hx] <;> omega))); conv => whnf)
      | (refine nth_is ?_ ?_ ?_; (focus (first | omega | (simp only [List.length_nil, fx, hx] <;> omega))); (focus (first | omega | (simp only [List.length_nil, fx, hx] <;> omega))); conv => whnf)
      | (refine nth_bs ?_ ?_ ?_; (focus (first | omega | (simp only [List.length_nil, fx, hx] <;> omega))); (focus (first | omega | (simp only [List.length_nil, fx, hx] <;> omega))); conv => whnf))
    · have h0 : (x.toNat : Int) < 48 := by assumption
      rw [numD_bad (k := k) (by rw [← hl]; omega) (by rw [← hl, ← hxe]; unfold digB; rw [decide_eq_false (by omega)]; rfl)]
    · have h0 : 57 < (x.toNat : Int) := by assumption
      rw [numD_bad (k := k) (by rw [← hl]; omega) (by rw [← hl, ← hxe]; unfold digB; rw [decide_eq_false (p := x.toNat ≤ 57) (by omega), Bool.and_false])]
    · have h0 : (x.toNat : Int) ≤ 57 := by assumption
      have h1 : 48 ≤ (x.toNat : Int) := by assumption
      refine loopC (hC (k + 1) ⟨by omega, ?_⟩ (by omega)) ?_
      · rw [htk (by omega), List.all_append, hk2]
        simp only [List.all_cons, List.all_nil, Bool.and_true, Bool.true_and, digB, Bool.and_eq_true, decide_eq_true_eq]
        omega
      · have e1 : IntKind.i64.wrap ((decV (l.take k) : Nat) * 10 : Int) = ((decV (l.take k) * 10 : Nat) : Int) := by rw [Int.natCast_mul]; exact wrap_i64 ⟨by omega, by omega⟩
        have e2 : IntKind.i64.wrap (((decV (l.take k) * 10 : Nat) : Int) + ((x.toNat - 48 : Nat) : Int)) = ((decV (l.take k) * 10 + (x.toNat - 48) : Nat) : Int) := by rw [← Int.natCast_add]; exact wrap_i64 ⟨by omega, by omega⟩
        rw [hx, wr10 x.toNat (by omega) (by omega), e1, e2, hw, htk (by omega), decV_snoc, Int.natCast_succ]
        rfl
    · have h0 : 1000000 < ((decV (l.take k) : Nat) : Int) := by assumption
      rw [List.take_of_length_le (by omega)] at h0
      have : numD s = -1 := by unfold numD; rw [if_neg]; rw [← hl]; rintro ⟨_, _, h, _⟩; omega
      rw [this]
    · rw [wrap_u64 (n := ((decV (l.take k) : Nat) : Int)) ⟨by omega, by omega⟩]; omega
    · have h0 : eqS (dig (IntKind.u64.wrap ((decV (l.take k) : Nat) : Int))) s = false := by assumption
      rw [wrap_u64 (n := ((decV (l.take k) : Nat) : Int)) ⟨by omega, by omega⟩, List.take_of_length_le (by omega)] at h0
      have : numD s = -1 := by unfold numD; rw [if_neg]; rw [← hl]; rintro ⟨_, _, _, h⟩; rw [eqS_iff.2 h] at h0; cases h0
      rw [this]
    · have h0 : eqS (dig (IntKind.u64.wrap ((decV (l.take k) : Nat) : Int))) s = true := by assumption
      have h1 : ((decV (l.take k) : Nat) : Int) ≤ 1000000 := by assumption
      rw [wrap_u64 (n := ((decV (l.take k) : Nat) : Int)) ⟨by omega, by omega⟩, List.take_of_length_le (by omega)] at h0
      have h0 := eqS_iff.1 h0
      rw [List.take_of_length_le (by omega)] at h1 hk2 ⊢
      have : numD s = (decV l : Nat) := by unfold numD; rw [← hl, if_pos ⟨h7, hk2, by omega, h0⟩]
      rw [this]
  · have hn : numD s = -1 := by unfold numD; rw [if_neg (fun h => h7 h.1)]
    rw [hn]
    conv => whnf
    repeat' (first
      | (refine brK_true rfl ?_; conv => whnf)
      | (refine brK_false rfl ?_; conv => whnf)
      | (refine brK_true (by assumption) ?_; conv => whnf)
      | (refine brK_false (by assumption) ?_; conv => whnf)
      | (refine brK_true ?_ ?_; (focus (simp only [List.length_nil, fx] <;> omega)); conv => whnf)
      | (refine brK_false ?_ ?_; (focus (simp only [List.length_nil, fx] <;> omega)); conv => whnf)
      | ((refine brK_of (fun h => ?_) (fun h => ?_)) <;> (have h2 := h; (try simp only [List.length_nil, fx] at h2); conv => whnf))
      | (refine reqK_of ?_ ?_; (focus (first | decide | omega | assumption | (simp only [List.length_nil, fx] <;> omega) | (simp [keyNew, sameKey, kEq] <;> omega))); conv => whnf)
      | (refine reqK_of ?_ ?_; rotate_left; (conv => whnf); rotate_left)
      | (refine nth_us ?_ ?_ ?_; (focus (first | omega | (simp only [List.length_nil, fx] <;> omega))); (focus (first | omega | (simp only [List.length_nil, fx] <;> omega))); conv => whnf)
      | (refine nth_is ?_ ?_ ?_; (focus (first | omega | (simp only [List.length_nil, fx] <;> omega))); (focus (first | omega | (simp only [List.length_nil, fx] <;> omega))); conv => whnf)
      | (refine nth_bs ?_ ?_ ?_; (focus (first | omega | (simp only [List.length_nil, fx] <;> omega))); (focus (first | omega | (simp only [List.length_nil, fx] <;> omega))); conv => whnf))
open Classical in
noncomputable def c61 : List T → Ans
  | [.str s] => .req (s.size ≤ 1048576) (.int .i64 (numD s))
  | _ => .no
theorem got61 {vs : List T} {x : T} (h : Got (c61 vs) x) : FnOk Tryd.prog tgl 61 vs x := by
  unfold c61 at h
  split at h
  · obtain ⟨hq, e⟩ := got_req h; rw [e]; exact ok61 _ hq
  · exact (got_no h).elim
theorem nogl61 (vs : List T) (p : Prop) (d : Decidable p) (sz : Nat) (xs : List T) (h : c61 vs = @Ans.gl p d sz xs) : False := by
  unfold c61 at h
  split at h <;> cases h
theorem pk61 (vs : List T) (p : Prop) (d : Decidable p) (x : T) (h : c61 vs = @Ans.pk p d x) (hp : p) : FnOk Tryd.prog tgl 61 vs x := by
  unfold c61 at h
  split at h
  · cases h
  · cases h
end Go.Nx
end
section
set_option linter.unusedVariables false
set_option linter.unusedSimpArgs false
set_option maxRecDepth 20000
set_option maxHeartbeats 4000000
namespace Go.Nx
open Go Go.RowKit Go.Proofs

noncomputable def lH18 : List (Nat × (List T → Ans)) := (30, c30) :: (60, c60) :: (61, c61) :: lH14
noncomputable def iH18 : List (Nat × Pt) := iH14
noncomputable abbrev H18 : Env := En tgl lH18 iH18
theorem env_H18 : EnvOk Tryd.prog H18 := (env_fn (env_fn (env_fn env_H14 (fun _ _ => got61) (fun vs p d sz xs h _ => (nogl61 vs p d sz xs h).elim) pk61) (fun _ _ => got60) gl60 pk60) (fun _ _ => got30) (fun vs p d sz xs h _ => (nogl30 vs p d sz xs h).elim) pk30)
def numB (w : List UInt8) : Int := numD ⟨w.toArray⟩
theorem numD_range (s : ByteArray) : -1 ≤ numD s ∧ numD s ≤ 1000000 := by
  unfold numD
  split
  · rename_i h; omega
  · omega
def dRow (p : List UInt8) : List Int := (spl 44 p).map numB
def dNum (t : ByteArray) : Int := numB ((spl 124 t.data.toList).headD [])
def dObjs (t : ByteArray) : List (List Int) := (spl 124 t.data.toList).tail.map dRow
def dP (t : ByteArray) : Bool := decide (hTxt (dNum t) (dObjs t) = t) && decide (t ≠ ⟨#[63]⟩)
def dAns (t : ByteArray) : T := if dP t then .tup [.agg [.int .i64 (dNum t), .list 1 (rs (dObjs t))], .int .i64 0] else .tup [.agg [.int .i64 0, .list 1 (rs [])], .int .i64 2]
def ownD (n : Int) (ps : List (List UInt8)) (k : Nat) : Own := match k with
  | 0 => [(69, .cells [.t (.int .i64 n), .t .nils]), (75, .lst 1 (ss ps) 1), (66, .cells [.t (.int .i64 0), .t .nils])]
  | k + 1 => [(1001, .lst 1 (rs ((ps.tail.take (k + 1)).map dRow)) 1), (69, .cells [.t (.int .i64 n), .sl 1001 0 none]), (75, .lst 1 (ss ps) 1), (66, .cells [.t (.int .i64 0), .t .nils])]
theorem atB_tail (l : List (List UInt8)) (k : Nat) : atB l ((k : Nat) + 1 : Int) = atB l.tail ((k : Nat) : Int) := by
  unfold atB
  rw [show ((k : Nat) + 1 : Int).toNat = k + 1 by omega, Int.toNat_natCast, List.getD_eq_getElem?_getD, List.getD_eq_getElem?_getD, List.getElem?_tail]
theorem atB_piece {c : UInt8} {l : List UInt8} {k : Nat} (h : k < (spl c l).length - 1) : (atB (spl c l) ((k : Nat) + 1 : Int)).length ≤ l.length := by
  rw [atB_tail]; exact (tail_mem h).2
theorem isnocD {l : List (List UInt8)} {j : Nat} (h : j < l.length) : is ((l.take j).map numB) ++ [T.int .i64 (numB (atB l (j : Int)))] = is ((l.take (j + 1)).map numB) := by
  have e : l[j]? = some (atB l (j : Int)) := by
    unfold atB
    rw [Int.toNat_natCast, List.getD_eq_getElem?_getD, List.getElem?_eq_getElem h]; rfl
  rw [List.take_add_one, e]
  simp [is]
theorem rs_snocD {l : List (List UInt8)} {k : Nat} (h : k < l.length) {r : List Int} (hr : r = dRow (atB l (k : Int))) : rs ((l.take k).map dRow) ++ [T.list 1 (is r)] = rs ((l.take (k + 1)).map dRow) := by
  have e : l[k]? = some (atB l (k : Int)) := by
    unfold atB
    rw [Int.toNat_natCast, List.getD_eq_getElem?_getD, List.getElem?_eq_getElem h]; rfl
  subst hr
  rw [List.take_add_one, e]
  simp [rs]
theorem isH_partsD {t : ByteArray} (ht : t.size ≤ 1048576) (k : Nat) : IsH (rs (((spl 124 t.data.toList).tail.take k).map dRow)) := by
  have hlen := spl_len 124 t.data.toList
  have hcnt : t.data.toList.count 124 ≤ t.size := by have := List.count_le_length (a := (124 : UInt8)) (l := t.data.toList); rw [Array.length_toList] at this; exact this
  refine ⟨_, rfl, ?_, fun l hl => ?_⟩
  · rw [List.length_map, List.length_take, List.length_tail]; omega
  · obtain ⟨p, hp, rfl⟩ := List.mem_map.1 hl
    have h1 := tail_piece 124 (List.mem_of_mem_take hp)
    have e5 : t.data.toList.length = t.data.size := Array.length_toList
    have h2 : t.data.size ≤ 1048576 := ht
    have h3 := spl_len 44 p
    have h4 : p.count 44 ≤ p.length := List.count_le_length
    unfold dRow
    refine ⟨by rw [List.length_map]; omega, fun n hn => ?_⟩
    obtain ⟨w, _, rfl⟩ := List.mem_map.1 hn
    have := numD_range ⟨w.toArray⟩
    exact ⟨by unfold numB; omega, by unfold numB; omega⟩
theorem ownD_succ {n : Int} {ps : List (List UInt8)} {k : Nat} {r : List T} (e : r = rs ((ps.tail.take (k + 1)).map dRow)) : ownD n ps (k + 1) = [(1001, .lst 1 r 1), (69, .cells [.t (.int .i64 n), .sl 1001 0 none]), (75, .lst 1 (ss ps) 1), (66, .cells [.t (.int .i64 0), .t .nils])] := by subst e; rfl
theorem enter_lowK {P : Program} {f : FuncId} {fn : Func} {m : MFn} (hf : P.funcs[f]? = some fn) (hl : lowFn P fn = some m) : Enter P f := by
  unfold lowFn at hl
  split at hl
  · rename_i c hb
    split at hl
    · split at hl
      · cases hl
      · rename_i hname; exact ⟨fn, hf, by simp [hb], hname⟩
    · cases hl
  · cases hl
theorem fn_okK {P : Program} {Γ : Env} (hΓ : EnvOk P Γ) {f : FuncId} {fn : Func} {m : MFn} {vs : List T} {x : T} (hf : P.funcs[f]? = some fn) (hl : lowFn P fn = some m) (h : fnK Γ m vs (fun y => ∀ S w v, RelT S w y v → RelT S w x v)) : FnOk P Γ.gl f vs x := by
  obtain ⟨hnp, h⟩ := lenK_elim h
  have h3 := initK_elim (tagK_elim h)
  have main := fun (S : Cells) (w : World) (args : Array Value) (hlt : ∀ b o, S b o → b < w.heap.size) (hgl : GlOk Γ.gl S w) (hsz : args.size = vs.length) (hrel : ∀ (i : Nat) (c : T) (u : Value), vs[i]? = some c → args[i]? = some u → RelT S w c u) =>
    body_run (ρ := fun _ => ⟨0, .nilFunc⟩) (vals := args) (K := fun l st => run false (toTP 8 (oneV l) fun x => .ret (.t x)) st.own [] fun v _ _ => match v with
      | .t y => ∀ S w v, RelT S w y v → RelT S w x v
      | _ => False) hΓ hf hl (mem_nil hlt hgl _) (fun k b hk => by simp [look] at hk) (by simpa using hsz) (by simpa using hnp) (rel_ts hrel) h3
  refine ⟨enter_lowK hf hl, fun S w args hlt hgl hsz hrel => ?_⟩
  refine Calls.mono (main S w args hlt hgl hsz hrel).2 fun e w' he => ?_
  obtain ⟨u, l, st', S', ρ', a', rfl, hK, hr, hv⟩ := he
  obtain ⟨tm', own'⟩ := st'
  obtain ⟨y, own2, S2, log2, g1, g2, g3⟩ := toT_ok 8 _ _ _ _ _ _ _ _ _ _ _ _ _ _ hr hv hK
  have g1 : ∀ S w v, RelT S w y v → RelT S w x v := g1
  have g4 : RelT (fresh S w _) _ y u := g3.mono (fun b o hb => sup_nil g2.rel hb) (fun _ _ _ => rfl)
  exact ⟨u, rfl, g1 _ _ _ g4, below_of hr⟩
theorem ok24 (t : ByteArray) (hq : t.size ≤ 1048576) : FnOk Tryd.prog tgl 24 [.str t] (dAns t) := by
  have ht := hq
  have hlen := spl_len 124 t.data.toList
  have hcnt : t.data.toList.count 124 ≤ t.size := by have := List.count_le_length (a := (124 : UInt8)) (l := t.data.toList); rw [Array.length_toList] at this; exact this
  have hlen' : (spl (bt 124) t.data.toList).length = t.data.toList.count 124 + 1 := hlen
  have es : bt 124 = 124 := rfl
  have ltl : (spl 124 t.data.toList).tail.length = t.data.toList.count 124 := by rw [List.length_tail, hlen]; rfl
  have hhd : atB (spl 124 t.data.toList) 0 = (spl 124 t.data.toList).headD [] := by
    unfold atB
    cases hs : spl 124 t.data.toList with
    | nil => rfl
    | cons a r => rfl
  have bad : dP t = false → ∀ (S : Cells) (w : World) (v : Value), RelT S w (.tup [.agg [.int .i64 0, .nils], .int .i64 2]) v → RelT S w (dAns t) v := fun h S w v hv => by
    unfold dAns
    rw [if_neg (by rw [h]; decide)]
    exact tup_nil S w v hv
  have dOb : ∀ k : Nat, k = t.data.toList.count 124 → ∀ L, L = ((spl 124 t.data.toList).tail.take k).map dRow → dObjs t = L := fun k hk L hL => by
    unfold dObjs; rw [hL, List.take_of_length_le (by rw [ltl]; omega)]
  refine fn_okK (Γ := H18) env_H18 Tryd.func24 low24 ?_
  conv => whnf
  repeat' (first
    | (refine brK_true rfl ?_; conv => whnf)
    | (refine brK_false rfl ?_; conv => whnf)
    | (refine brK_true (by assumption) ?_; conv => whnf)
    | (refine brK_false (by assumption) ?_; conv => whnf)
    | (refine brK_true ?_ ?_; (focus (simp only [List.length_nil, fx, ss_len] <;> omega)); conv => whnf)
    | (refine brK_false ?_ ?_; (focus (simp only [List.length_nil, fx, ss_len] <;> omega)); conv => whnf)
    | ((refine brK_of (fun h => ?_) (fun h => ?_)) <;> (have h2 := h; (try simp only [List.length_nil, fx, ss_len] at h2); conv => whnf))
    | (refine reqK_of ?_ ?_; (focus (first | decide | omega | assumption | (simp only [List.length_nil, fx, ss_len] <;> omega) | (simp [keyNew, sameKey, kEq] <;> omega))); conv => whnf)
    | (refine reqK_of ?_ ?_; rotate_left; (conv => whnf); rotate_left)
    | (refine nth_ss ?_ ?_ ?_; (focus (first | omega | (simp only [List.length_nil, fx, ss_len] <;> omega))); (focus (first | omega | (simp only [List.length_nil, fx, ss_len] <;> omega))); conv => whnf)
    | (refine nth_us ?_ ?_ ?_; (focus (first | omega | (simp only [List.length_nil, fx, ss_len] <;> omega))); (focus (first | omega | (simp only [List.length_nil, fx, ss_len] <;> omega))); conv => whnf)
    | (refine nth_is ?_ ?_ ?_; (focus (first | omega | (simp only [List.length_nil, fx, ss_len] <;> omega))); (focus (first | omega | (simp only [List.length_nil, fx, ss_len] <;> omega))); conv => whnf)
    | (refine nth_bs ?_ ?_ ?_; (focus (first | omega | (simp only [List.length_nil, fx, ss_len] <;> omega))); (focus (first | omega | (simp only [List.length_nil, fx, ss_len] <;> omega))); conv => whnf))
  · have := atB_len (c := 124) (l := t.data.toList) (k := 0) (by omega)
    show (List.toArray _).size ≤ _
    rw [List.size_toArray]
    rw [Array.length_toList] at this
    exact Nat.le_trans this ht
  · refine loopFn [] (fun s => nzM 110 s [.kill 7, .kill 8, .kill 9, .kill 17, .kill 18, .kill 19, .kill 20, .kill 21, .kill 22, .kill 23, .kill 24, .kill 25, .kill 26, .kill 27, .kill 28, .kill 29, .kill 30, .kill 31, .kill 32, .kill 33, .kill 34, .kill 35, .kill 36, .kill 37, .kill 38, .kill 39, .kill 40, .kill 41, .kill 42, .kill 43, .kill 44, .kill 45, .kill 46, .kill 47, .keep [110, 69, 75, 66], .set 110, .ren 110 1001] [.kill 7, .kill 8, .kill 9, .kill 17, .kill 18, .kill 19, .kill 20, .kill 21, .kill 22, .kill 23, .kill 24, .kill 25, .kill 26, .kill 27, .kill 28, .kill 29, .kill 30, .kill 31, .kill 32, .kill 33, .kill 34, .kill 35, .kill 36, .kill 37, .kill 38, .kill 39, .kill 40, .kill 41, .kill 42, .kill 43, .kill 44, .kill 45, .kill 46, .kill 47, .keep [110, 69, 75, 66], .ren 110 1001]) (fun k : Nat => [(6, .t (.int .i64 ((k : Int) + 1)))]) (fun k => ownD (dNum t) (spl 124 t.data.toList) k) (fun k => k ≤ t.data.toList.count 124) (fun k => t.data.toList.count 124 - k) 0 (Nat.zero_le _) ?_
    conv => whnf
    refine ⟨⟨rfl, by unfold ownD dNum; rw [← hhd]; rfl⟩, fun k hk1 C hC => ?_⟩
    have hw : IntKind.i64.wrap ((k : Int) + 1 + 1) = (k : Int) + 1 + 1 := wrap_i64 ⟨by omega, by omega⟩
    have hL : ((ss (spl (bt 124) t.data.toList)).length : Int) = (t.data.toList.count 124 : Int) + 1 := by rw [ss_len, hlen']; rfl
    cases k with
    | zero =>
      conv => whnf
      repeat' (first
        | (refine brK_true rfl ?_; conv => whnf)
        | (refine brK_false rfl ?_; conv => whnf)
        | (refine brK_true (by assumption) ?_; conv => whnf)
        | (refine brK_false (by assumption) ?_; conv => whnf)
        | (refine brK_true ?_ ?_; (focus (simp only [List.length_nil, fx, hL, ss_len] <;> omega)); conv => whnf)
        | (refine brK_false ?_ ?_; (focus (simp only [List.length_nil, fx, hL, ss_len] <;> omega)); conv => whnf)
        | ((refine brK_of (fun h => ?_) (fun h => ?_)) <;> (have h2 := h; (try simp only [List.length_nil, fx, hL, ss_len] at h2); conv => whnf))
        | (refine reqK_of ?_ ?_; (focus (first | decide | omega | assumption | (simp only [List.length_nil, fx, hL, ss_len] <;> omega) | (simp [keyNew, sameKey, kEq] <;> omega))); conv => whnf)
        | (refine reqK_of ?_ ?_; rotate_left; (conv => whnf); rotate_left)
        | (refine nth_ss ?_ ?_ ?_; (focus (first | omega | (simp only [List.length_nil, fx, hL, ss_len] <;> omega))); (focus (first | omega | (simp only [List.length_nil, fx, hL, ss_len] <;> omega))); conv => whnf)
        | (refine nth_us ?_ ?_ ?_; (focus (first | omega | (simp only [List.length_nil, fx, hL, ss_len] <;> omega))); (focus (first | omega | (simp only [List.length_nil, fx, hL, ss_len] <;> omega))); conv => whnf)
        | (refine nth_is ?_ ?_ ?_; (focus (first | omega | (simp only [List.length_nil, fx, hL, ss_len] <;> omega))); (focus (first | omega | (simp only [List.length_nil, fx, hL, ss_len] <;> omega))); conv => whnf)
        | (refine nth_bs ?_ ?_ ?_; (focus (first | omega | (simp only [List.length_nil, fx, hL, ss_len] <;> omega))); (focus (first | omega | (simp only [List.length_nil, fx, hL, ss_len] <;> omega))); conv => whnf))
      · have hW := atB_piece (c := 124) (l := t.data.toList) (k := 0) (by omega)
        refine ⟨?_, by decide, by decide⟩
        show (List.toArray _).size ≤ _
        rw [List.size_toArray]
        rw [Array.length_toList] at hW
        exact Nat.le_trans (by simpa using hW) ht
      · have hW := tail_mem (c := 124) (l := t.data.toList) (k := 0) (by omega)
        have hWt : atB (spl 124 t.data.toList) ((0 : Nat) + 1 : Int) = atB (spl 124 t.data.toList).tail ((0 : Nat) : Int) := atB_tail _ _
        rw [hWt]
        generalize hWW : atB (spl 124 t.data.toList).tail ((0 : Nat) : Int) = W at hW
        have hWl : W.length ≤ 1048576 := by have := hW.2; rw [Array.length_toList] at this; exact Nat.le_trans this ht
        have hwl : (spl (bt 44) W).length = W.count 44 + 1 := spl_len 44 W
        have hwl2 : (spl 44 W).length = W.count 44 + 1 := spl_len 44 W
        have hwc : W.count 44 ≤ W.length := List.count_le_length
        refine loopFn [.adopt 8 1002 1] (fun s => [.kill 28, .kill 29, .kill 30, .kill 31, .kill 32, .kill 33, .kill 34, .kill 35, .kill 36, .kill 37, .kill 38, .kill 39, .kill 40, .kill 41, .keep [105, 1001, 91, 69, 75, 66], .ren 105 1002]) (fun j : Nat => [(8, .sl 1002 0 none), (9, .t (.int .i64 (j : Int)))]) (fun j => (1002, .lst 1 (is (((spl 44 W).take j).map numB)) 1) :: (91, .lst 1 (ss (spl 44 W)) 1) :: ownD (dNum t) (spl 124 t.data.toList) (0)) (fun j => j ≤ (spl 44 W).length) (fun j => (spl 44 W).length - j) 0 (Nat.zero_le _) ?_
        conv => whnf
        refine ⟨⟨rfl, rfl⟩, fun j hj1 C' hC' => ?_⟩
        have hwj : IntKind.i64.wrap ((j : Int) + 1) = (j : Int) + 1 := wrap_i64 ⟨by omega, by omega⟩
        conv => whnf
        repeat' (first
          | (refine brK_true rfl ?_; conv => whnf)
          | (refine brK_false rfl ?_; conv => whnf)
          | (refine brK_true (by assumption) ?_; conv => whnf)
          | (refine brK_false (by assumption) ?_; conv => whnf)
          | (refine brK_true ?_ ?_; (focus (simp only [List.length_nil, fx, ss_len] <;> omega)); conv => whnf)
          | (refine brK_false ?_ ?_; (focus (simp only [List.length_nil, fx, ss_len] <;> omega)); conv => whnf)
          | ((refine brK_of (fun h => ?_) (fun h => ?_)) <;> (have h2 := h; (try simp only [List.length_nil, fx, ss_len] at h2); conv => whnf))
          | (refine reqK_of ?_ ?_; (focus (first | decide | omega | assumption | (simp only [List.length_nil, fx, ss_len] <;> omega) | (simp [keyNew, sameKey, kEq] <;> omega))); conv => whnf)
          | (refine reqK_of ?_ ?_; rotate_left; (conv => whnf); rotate_left)
          | (refine nth_ss ?_ ?_ ?_; (focus (first | omega | (simp only [List.length_nil, fx, ss_len] <;> omega))); (focus (first | omega | (simp only [List.length_nil, fx, ss_len] <;> omega))); conv => whnf)
          | (refine nth_us ?_ ?_ ?_; (focus (first | omega | (simp only [List.length_nil, fx, ss_len] <;> omega))); (focus (first | omega | (simp only [List.length_nil, fx, ss_len] <;> omega))); conv => whnf)
          | (refine nth_is ?_ ?_ ?_; (focus (first | omega | (simp only [List.length_nil, fx, ss_len] <;> omega))); (focus (first | omega | (simp only [List.length_nil, fx, ss_len] <;> omega))); conv => whnf)
          | (refine nth_bs ?_ ?_ ?_; (focus (first | omega | (simp only [List.length_nil, fx, ss_len] <;> omega))); (focus (first | omega | (simp only [List.length_nil, fx, ss_len] <;> omega))); conv => whnf))
        · have := atB_len (c := 44) (l := W) (k := j) (by omega)
          show (List.toArray _).size ≤ _
          rw [List.size_toArray]
          exact Nat.le_trans this hWl
        · rw [is_len, List.length_map, List.length_take]; unfold maxBytes; simp only [List.length_cons, List.length_nil]; omega
        · refine loopC (hC' (j + 1) (by omega) (by omega)) ?_
          rw [← isnocD (by omega), hwj, Int.natCast_succ]; rfl
        · rw [List.length_cons, List.length_nil]; unfold maxBytes; omega
        · refine loopC (hC (0 + 1) (by omega) (by omega)) ?_
          have e1 : List.take j (spl 44 W) = spl 44 W := List.take_of_length_le (by omega)
          have e2 := rs_snocD (l := (spl 124 t.data.toList).tail) (k := 0) (by omega) (r := (spl 44 W).map numB) (by rw [hWW]; rfl)
          rw [e1, hw, ownD_succ e2, Int.natCast_succ]
          rfl
      · have hk3 : 0 = t.data.toList.count 124 := by omega
        have h0 : eqS (hTxt (dNum t) []) t = false := by assumption
        refine bad ?_
        unfold dP
        rw [dOb 0 hk3 [] rfl, decide_eq_false (fun e => by rw [eqS_iff.2 e] at h0; cases h0)]; rfl
      · have h0 : eqS t ⟨#[63]⟩ = true := by assumption
        refine bad ?_
        unfold dP
        rw [decide_eq_false (p := t ≠ _) (fun e => e (eqS_iff.1 h0)), Bool.and_false]
      · have hk3 : 0 = t.data.toList.count 124 := by omega
        have h0 : eqS t ⟨#[63]⟩ = false := by assumption
        have h1 : eqS (hTxt (dNum t) []) t = true := by assumption
        have hp : dP t = true := by
          unfold dP
          rw [dOb 0 hk3 [] rfl, decide_eq_true (eqS_iff.1 h1), decide_eq_true (p := t ≠ _) (fun e => by rw [eqS_iff.2 e] at h0; cases h0)]; rfl
        unfold dAns
        rw [if_pos hp, dOb 0 hk3 [] rfl]
        exact tup_nil
    | succ k =>
      conv => whnf
      repeat' (first
        | (refine brK_true rfl ?_; conv => whnf)
        | (refine brK_false rfl ?_; conv => whnf)
        | (refine brK_true (by assumption) ?_; conv => whnf)
        | (refine brK_false (by assumption) ?_; conv => whnf)
        | (refine brK_true ?_ ?_; (focus (simp only [List.length_nil, fx, hL, ss_len] <;> omega)); conv => whnf)
        | (refine brK_false ?_ ?_; (focus (simp only [List.length_nil, fx, hL, ss_len] <;> omega)); conv => whnf)
        | ((refine brK_of (fun h => ?_) (fun h => ?_)) <;> (have h2 := h; (try simp only [List.length_nil, fx, hL, ss_len] at h2); conv => whnf))
        | (refine reqK_of ?_ ?_; (focus (first | decide | omega | assumption | (simp only [List.length_nil, fx, hL, ss_len] <;> omega) | (simp [keyNew, sameKey, kEq] <;> omega))); conv => whnf)
        | (refine reqK_of ?_ ?_; rotate_left; (conv => whnf); rotate_left)
        | (refine nth_ss ?_ ?_ ?_; (focus (first | omega | (simp only [List.length_nil, fx, hL, ss_len] <;> omega))); (focus (first | omega | (simp only [List.length_nil, fx, hL, ss_len] <;> omega))); conv => whnf)
        | (refine nth_us ?_ ?_ ?_; (focus (first | omega | (simp only [List.length_nil, fx, hL, ss_len] <;> omega))); (focus (first | omega | (simp only [List.length_nil, fx, hL, ss_len] <;> omega))); conv => whnf)
        | (refine nth_is ?_ ?_ ?_; (focus (first | omega | (simp only [List.length_nil, fx, hL, ss_len] <;> omega))); (focus (first | omega | (simp only [List.length_nil, fx, hL, ss_len] <;> omega))); conv => whnf)
        | (refine nth_bs ?_ ?_ ?_; (focus (first | omega | (simp only [List.length_nil, fx, hL, ss_len] <;> omega))); (focus (first | omega | (simp only [List.length_nil, fx, hL, ss_len] <;> omega))); conv => whnf))
      · have hW := atB_piece (c := 124) (l := t.data.toList) (k := (k + 1)) (by omega)
        refine ⟨?_, by decide, by decide⟩
        show (List.toArray _).size ≤ _
        rw [List.size_toArray]
        rw [Array.length_toList] at hW
        exact Nat.le_trans (by simpa using hW) ht
      · have hW := tail_mem (c := 124) (l := t.data.toList) (k := (k + 1)) (by omega)
        have hWt : atB (spl 124 t.data.toList) (((k + 1) : Nat) + 1 : Int) = atB (spl 124 t.data.toList).tail (((k + 1) : Nat) : Int) := atB_tail _ _
        rw [hWt]
        generalize hWW : atB (spl 124 t.data.toList).tail (((k + 1) : Nat) : Int) = W at hW
        have hWl : W.length ≤ 1048576 := by have := hW.2; rw [Array.length_toList] at this; exact Nat.le_trans this ht
        have hwl : (spl (bt 44) W).length = W.count 44 + 1 := spl_len 44 W
        have hwl2 : (spl 44 W).length = W.count 44 + 1 := spl_len 44 W
        have hwc : W.count 44 ≤ W.length := List.count_le_length
        refine loopFn [.adopt 8 1002 1] (fun s => [.kill 28, .kill 29, .kill 30, .kill 31, .kill 32, .kill 33, .kill 34, .kill 35, .kill 36, .kill 37, .kill 38, .kill 39, .kill 40, .kill 41, .keep [105, 1001, 91, 69, 75, 66], .ren 105 1002]) (fun j : Nat => [(8, .sl 1002 0 none), (9, .t (.int .i64 (j : Int)))]) (fun j => (1002, .lst 1 (is (((spl 44 W).take j).map numB)) 1) :: (91, .lst 1 (ss (spl 44 W)) 1) :: ownD (dNum t) (spl 124 t.data.toList) ((k + 1))) (fun j => j ≤ (spl 44 W).length) (fun j => (spl 44 W).length - j) 0 (Nat.zero_le _) ?_
        conv => whnf
        refine ⟨⟨rfl, rfl⟩, fun j hj1 C' hC' => ?_⟩
        have hwj : IntKind.i64.wrap ((j : Int) + 1) = (j : Int) + 1 := wrap_i64 ⟨by omega, by omega⟩
        conv => whnf
        repeat' (first
          | (refine brK_true rfl ?_; conv => whnf)
          | (refine brK_false rfl ?_; conv => whnf)
          | (refine brK_true (by assumption) ?_; conv => whnf)
          | (refine brK_false (by assumption) ?_; conv => whnf)
          | (refine brK_true ?_ ?_; (focus (simp only [List.length_nil, fx, ss_len] <;> omega)); conv => whnf)
          | (refine brK_false ?_ ?_; (focus (simp only [List.length_nil, fx, ss_len] <;> omega)); conv => whnf)
          | ((refine brK_of (fun h => ?_) (fun h => ?_)) <;> (have h2 := h; (try simp only [List.length_nil, fx, ss_len] at h2); conv => whnf))
          | (refine reqK_of ?_ ?_; (focus (first | decide | omega | assumption | (simp only [List.length_nil, fx, ss_len] <;> omega) | (simp [keyNew, sameKey, kEq] <;> omega))); conv => whnf)
          | (refine reqK_of ?_ ?_; rotate_left; (conv => whnf); rotate_left)
          | (refine nth_ss ?_ ?_ ?_; (focus (first | omega | (simp only [List.length_nil, fx, ss_len] <;> omega))); (focus (first | omega | (simp only [List.length_nil, fx, ss_len] <;> omega))); conv => whnf)
          | (refine nth_us ?_ ?_ ?_; (focus (first | omega | (simp only [List.length_nil, fx, ss_len] <;> omega))); (focus (first | omega | (simp only [List.length_nil, fx, ss_len] <;> omega))); conv => whnf)
          | (refine nth_is ?_ ?_ ?_; (focus (first | omega | (simp only [List.length_nil, fx, ss_len] <;> omega))); (focus (first | omega | (simp only [List.length_nil, fx, ss_len] <;> omega))); conv => whnf)
          | (refine nth_bs ?_ ?_ ?_; (focus (first | omega | (simp only [List.length_nil, fx, ss_len] <;> omega))); (focus (first | omega | (simp only [List.length_nil, fx, ss_len] <;> omega))); conv => whnf))
        · have := atB_len (c := 44) (l := W) (k := j) (by omega)
          show (List.toArray _).size ≤ _
          rw [List.size_toArray]
          exact Nat.le_trans this hWl
        · rw [is_len, List.length_map, List.length_take]; unfold maxBytes; simp only [List.length_cons, List.length_nil]; omega
        · refine loopC (hC' (j + 1) (by omega) (by omega)) ?_
          rw [← isnocD (by omega), hwj, Int.natCast_succ]; rfl
        · rw [rs_len, List.length_map, List.length_take, List.length_cons, List.length_nil]; unfold maxBytes; omega
        · refine loopC (hC ((k + 1) + 1) (by omega) (by omega)) ?_
          have e1 : List.take j (spl 44 W) = spl 44 W := List.take_of_length_le (by omega)
          have e2 := rs_snocD (l := (spl 124 t.data.toList).tail) (k := (k + 1)) (by omega) (r := (spl 44 W).map numB) (by rw [hWW]; rfl)
          rw [e1, hw, ownD_succ e2, Int.natCast_succ]
          rfl
      · rw [subL_00]; exact isH_partsD ht (k + 1)
      · have hk3 : (k + 1) = t.data.toList.count 124 := by omega
        have h0 : eqS (hTxt (dNum t) (rowsOf (subL (rs (((spl 124 t.data.toList).tail.take (k + 1)).map dRow)) 0 none))) t = false := by assumption
        rw [subL_00, rowsOf_rs] at h0
        refine bad ?_
        unfold dP
        rw [dOb (k + 1) hk3 (((spl 124 t.data.toList).tail.take (k + 1)).map dRow) rfl, decide_eq_false (fun e => by rw [eqS_iff.2 e] at h0; cases h0)]; rfl
      · have h0 : eqS t ⟨#[63]⟩ = true := by assumption
        refine bad ?_
        unfold dP
        rw [decide_eq_false (p := t ≠ _) (fun e => e (eqS_iff.1 h0)), Bool.and_false]
      · have hk3 : (k + 1) = t.data.toList.count 124 := by omega
        have h0 : eqS t ⟨#[63]⟩ = false := by assumption
        have h1 : eqS (hTxt (dNum t) (rowsOf (subL (rs (((spl 124 t.data.toList).tail.take (k + 1)).map dRow)) 0 none))) t = true := by assumption
        rw [subL_00, rowsOf_rs] at h1
        have hp : dP t = true := by
          unfold dP
          rw [dOb (k + 1) hk3 (((spl 124 t.data.toList).tail.take (k + 1)).map dRow) rfl, decide_eq_true (eqS_iff.1 h1), decide_eq_true (p := t ≠ _) (fun e => by rw [eqS_iff.2 e] at h0; cases h0)]; rfl
        unfold dAns
        rw [if_pos hp, dOb (k + 1) hk3 (((spl 124 t.data.toList).tail.take (k + 1)).map dRow) rfl]
        rw [subL_00]; exact fun _ _ _ h => h
open Classical in
noncomputable def c24 : List T → Ans
  | [.str t] => .req (t.size ≤ 1048576) (dAns t)
  | _ => .no
theorem got24 {vs : List T} {x : T} (h : Got (c24 vs) x) : FnOk Tryd.prog tgl 24 vs x := by
  unfold c24 at h
  split at h
  · obtain ⟨hq, e⟩ := got_req h; rw [e]; exact ok24 _ hq
  · exact (got_no h).elim
theorem nogl24 (vs : List T) (p : Prop) (d : Decidable p) (sz : Nat) (xs : List T) (h : c24 vs = @Ans.gl p d sz xs) : False := by
  unfold c24 at h
  split at h <;> cases h
theorem pk24 (vs : List T) (p : Prop) (d : Decidable p) (x : T) (h : c24 vs = @Ans.pk p d x) (hp : p) : FnOk Tryd.prog tgl 24 vs x := by
  unfold c24 at h
  split at h
  · cases h
  · cases h
end Go.Nx
end
section
set_option linter.unusedVariables false
set_option linter.unusedSimpArgs false
namespace Go.Nx
open Go Go.RowKit

theorem numB_dig : ∀ k : Nat, k < 65 → numD (dig (k : Int)) = (k : Int) := by decide +kernel
theorem numB_of {v : Int} (h : 0 ≤ v ∧ v ≤ 64) : numB (dig v).data.toList = v := by
  obtain ⟨k, rfl⟩ : ∃ k : Nat, v = k := ⟨v.toNat, by omega⟩
  unfold numB
  rw [ba_eta]
  exact numB_dig k (by omega)
theorem map_numB {l : List Int} (h : ∀ v ∈ l, 0 ≤ v ∧ v ≤ 64) : (l.map fun v => (dig v).data.toList).map numB = l := by
  rw [List.map_map]
  have : ∀ v ∈ l, (numB ∘ fun v => (dig v).data.toList) v = v := fun v hv => numB_of (h v hv)
  rw [List.map_congr_left this, List.map_id']
theorem d_txt {n : Int} {L : List (List Int)} (h : hRight n L = true) : dNum (hTxt n L) = n ∧ dObjs (hTxt n L) = L := by
  obtain ⟨⟨h1, h2⟩, h3⟩ := right_le h
  have e : hTxt n L = ⟨(hCat n L).toArray⟩ := if_pos h
  have es : spl 124 (hTxt n L).data.toList = (dig n).data.toList :: L.map hRow := by
    rw [e]; exact hCat_spl ⟨by omega, by omega⟩ fun l hl => (h3 l hl).2
  refine ⟨?_, ?_⟩
  · unfold dNum; rw [es]; exact numB_of ⟨by omega, by omega⟩
  · unfold dObjs
    rw [es, List.tail_cons, List.map_map]
    have : ∀ l ∈ L, (dRow ∘ hRow) l = l := fun l hl => by
      show dRow (hRow l) = l
      unfold dRow
      rw [hRow_spl (h3 l hl).1 (h3 l hl).2]
      exact map_numB (h3 l hl).2
    rw [List.map_congr_left this, List.map_id']
theorem hP_q : hP ⟨#[63]⟩ = false := by decide +kernel
theorem d_h (t : ByteArray) : dP t = hP t ∧ (hP t = true → dNum t = hNum t ∧ dObjs t = hObjs t) := by
  have key : hP t = true → dNum t = hNum t ∧ dObjs t = hObjs t := fun h => by
    obtain ⟨h1, h2⟩ := hP_right h
    have := d_txt h1
    rw [h2] at this
    exact this
  refine ⟨?_, key⟩
  rw [Bool.eq_iff_iff]
  constructor
  · intro h
    unfold dP at h
    rw [Bool.and_eq_true, decide_eq_true_eq, decide_eq_true_eq] at h
    cases hr : hRight (dNum t) (dObjs t) with
    | true => exact (hP_iff hr h.1).1
    | false =>
      exfalso
      have h2 := h.1
      unfold hTxt at h2
      rw [if_neg (by rw [hr]; decide)] at h2
      exact h.2 h2.symm
  · intro h
    obtain ⟨k1, k2⟩ := key h
    obtain ⟨h1, h2⟩ := hP_right h
    unfold dP
    rw [k1, k2, decide_eq_true h2, decide_eq_true (p := t ≠ _) (fun e => by rw [e, hP_q] at h; cases h)]; rfl
theorem dAns_h (t : ByteArray) : dAns t = hAns t := by
  obtain ⟨h1, h2⟩ := d_h t
  unfold dAns hAns
  rw [h1]
  cases h : hP t with
  | true =>
    obtain ⟨a, b⟩ := h2 h
    rw [if_pos rfl, if_pos rfl, a, b]
  | false => rfl
end Go.Nx
end
section
set_option linter.unusedVariables false
set_option linter.unusedSimpArgs false
set_option maxRecDepth 20000
set_option maxHeartbeats 4000000
namespace Go.Nx
open Go Go.RowKit Go.Proofs

theorem ok18 (n : Int) (xs : List T) : FnOk Tryd.prog tgl 18 [.agg [.int .i64 n, .list 1 xs]] (.agg [.int .i64 n, .list 1 xs]) := by
  refine fn_ok (Γ := H14) env_H14 Tryd.func18 low18 ?_
  conv => whnf
  repeat' (first
    | (refine brK_true rfl ?_; conv => whnf)
    | (refine brK_false rfl ?_; conv => whnf)
    | (refine brK_true (by assumption) ?_; conv => whnf)
    | (refine brK_false (by assumption) ?_; conv => whnf)
    | (refine brK_true ?_ ?_; (focus (simp only [List.length_nil, fx] <;> omega)); conv => whnf)
    | (refine brK_false ?_ ?_; (focus (simp only [List.length_nil, fx] <;> omega)); conv => whnf)
    | ((refine brK_of (fun h => ?_) (fun h => ?_)) <;> (have h2 := h; (try simp only [List.length_nil, fx] at h2); conv => whnf))
    | (refine reqK_of ?_ ?_; (focus (first | decide | omega | assumption | (simp only [List.length_nil, fx] <;> omega) | (simp [keyNew, sameKey, kEq] <;> omega))); conv => whnf)
    | (refine reqK_of ?_ ?_; rotate_left; (conv => whnf); rotate_left)
    | (refine nth_us ?_ ?_ ?_; (focus (first | omega | (simp only [List.length_nil, fx] <;> omega))); (focus (first | omega | (simp only [List.length_nil, fx] <;> omega))); conv => whnf)
    | (refine nth_is ?_ ?_ ?_; (focus (first | omega | (simp only [List.length_nil, fx] <;> omega))); (focus (first | omega | (simp only [List.length_nil, fx] <;> omega))); conv => whnf)
    | (refine nth_bs ?_ ?_ ?_; (focus (first | omega | (simp only [List.length_nil, fx] <;> omega))); (focus (first | omega | (simp only [List.length_nil, fx] <;> omega))); conv => whnf))
open Classical in
noncomputable def c18 : List T → Ans
  | [.agg [.int .i64 n, .list 1 xs]] => .yes (.agg [.int .i64 n, .list 1 xs])
  | _ => .no
theorem got18 {vs : List T} {x : T} (h : Got (c18 vs) x) : FnOk Tryd.prog tgl 18 vs x := by
  unfold c18 at h
  split at h
  · rw [got_yes h]; exact ok18 _ _
  · exact (got_no h).elim
theorem nogl18 (vs : List T) (p : Prop) (d : Decidable p) (sz : Nat) (xs : List T) (h : c18 vs = @Ans.gl p d sz xs) : False := by
  unfold c18 at h
  split at h <;> cases h
theorem pk18 (vs : List T) (p : Prop) (d : Decidable p) (x : T) (h : c18 vs = @Ans.pk p d x) (hp : p) : FnOk Tryd.prog tgl 18 vs x := by
  unfold c18 at h
  split at h
  · cases h
  · cases h
def ownC (n : Int) (L : List (List Int)) (k : Nat) : Own := match k with
  | 0 => [(67, .cells [.t (.int .i64 n), .t .nils]), (66, .cells [.t (.int .i64 0), .t .nils]), (65, .cells [.t (.int .i64 n), .t (.list 1 (rs L))])]
  | k + 1 => [(1001, .lst 1 (rs (L.take (k + 1))) 1), (67, .cells [.t (.int .i64 n), .sl 1001 0 none]), (66, .cells [.t (.int .i64 0), .t .nils]), (65, .cells [.t (.int .i64 n), .t (.list 1 (rs L))])]
theorem rs_take {L : List (List Int)} {k : Nat} (h : k < L.length) : rs (L.take k) ++ [T.list 1 (is (row L ((k : Int) + 1)))] = rs (L.take (k + 1)) := by
  unfold rs
  rw [row_at h, List.take_add_one, List.getElem?_eq_getElem h, List.map_append]
  rfl
theorem ownC_succ {n : Int} {L : List (List Int)} {k : Nat} {r : List T} (e : r = rs (L.take (k + 1))) : ownC n L (k + 1) = [(1001, .lst 1 r 1), (67, .cells [.t (.int .i64 n), .sl 1001 0 none]), (66, .cells [.t (.int .i64 0), .t .nils]), (65, .cells [.t (.int .i64 n), .t (.list 1 (rs L))])] := by subst e; rfl
theorem ok55 (n : Int) (xs : List T) (hq : IsH xs) : FnOk Tryd.prog tgl 55 [.agg [.int .i64 n, .list 1 xs]] (.agg [.int .i64 n, .list 1 xs]) := by
  obtain ⟨L, rfl, hl, hL⟩ := hq
  refine fn_okK (Γ := H14) env_H14 Tryd.func55 low55 ?_
  conv => whnf
  repeat' (first
    | (refine brK_true rfl ?_; conv => whnf)
    | (refine brK_false rfl ?_; conv => whnf)
    | (refine brK_true (by assumption) ?_; conv => whnf)
    | (refine brK_false (by assumption) ?_; conv => whnf)
    | (refine brK_true ?_ ?_; (focus (simp only [List.length_nil, fx, rs_len] <;> omega)); conv => whnf)
    | (refine brK_false ?_ ?_; (focus (simp only [List.length_nil, fx, rs_len] <;> omega)); conv => whnf)
    | ((refine brK_of (fun h => ?_) (fun h => ?_)) <;> (have h2 := h; (try simp only [List.length_nil, fx, rs_len] at h2); conv => whnf))
    | (refine reqK_of ?_ ?_; (focus (first | decide | omega | assumption | (simp only [List.length_nil, fx, rs_len] <;> omega) | (simp [keyNew, sameKey, kEq] <;> omega))); conv => whnf)
    | (refine reqK_of ?_ ?_; rotate_left; (conv => whnf); rotate_left)
    | (refine nth_us ?_ ?_ ?_; (focus (first | omega | (simp only [List.length_nil, fx, rs_len] <;> omega))); (focus (first | omega | (simp only [List.length_nil, fx, rs_len] <;> omega))); conv => whnf)
    | (refine nth_is ?_ ?_ ?_; (focus (first | omega | (simp only [List.length_nil, fx, rs_len] <;> omega))); (focus (first | omega | (simp only [List.length_nil, fx, rs_len] <;> omega))); conv => whnf)
    | (refine nth_bs ?_ ?_ ?_; (focus (first | omega | (simp only [List.length_nil, fx, rs_len] <;> omega))); (focus (first | omega | (simp only [List.length_nil, fx, rs_len] <;> omega))); conv => whnf))
  refine loopFn [] (fun s => nzM 88 s [.kill 8, .kill 9, .kill 10, .kill 11, .kill 12, .kill 13, .kill 14, .kill 15, .kill 16, .kill 17, .kill 18, .kill 19, .kill 20, .kill 21, .kill 22, .kill 23, .kill 24, .kill 25, .keep [88, 67, 66, 65], .set 88, .ren 88 1001] [.kill 8, .kill 9, .kill 10, .kill 11, .kill 12, .kill 13, .kill 14, .kill 15, .kill 16, .kill 17, .kill 18, .kill 19, .kill 20, .kill 21, .kill 22, .kill 23, .kill 24, .kill 25, .keep [88, 67, 66, 65], .ren 88 1001]) (fun k : Nat => [(4, .t (.int .i64 (k : Int)))]) (fun k => ownC n L k) (fun k => k ≤ L.length) (fun k => L.length - k) 0 (Nat.zero_le _) ?_
  conv => whnf
  refine ⟨⟨rfl, rfl⟩, fun k hk C hC => ?_⟩
  have hw : IntKind.i64.wrap ((k : Int) + 1) = (k : Int) + 1 := wrap_i64 ⟨by omega, by omega⟩
  have hrow : k < L.length → (row L ((k : Int) + 1)).length ≤ 1048576 := fun h => by
    rw [row_at h]; exact (hL _ (List.getElem_mem h)).1
  cases k with
  | zero =>
    conv => whnf
    repeat' (first
      | (refine brK_true rfl ?_; conv => whnf)
      | (refine brK_false rfl ?_; conv => whnf)
      | (refine brK_true (by assumption) ?_; conv => whnf)
      | (refine brK_false (by assumption) ?_; conv => whnf)
      | (refine brK_true ?_ ?_; (focus (simp only [List.length_nil, fx, rs_len] <;> omega)); conv => whnf)
      | (refine brK_false ?_ ?_; (focus (simp only [List.length_nil, fx, rs_len] <;> omega)); conv => whnf)
      | ((refine brK_of (fun h => ?_) (fun h => ?_)) <;> (have h2 := h; (try simp only [List.length_nil, fx, rs_len] at h2); conv => whnf))
      | (refine reqK_of ?_ ?_; (focus (first | decide | omega | assumption | (simp only [List.length_nil, fx, rs_len] <;> omega) | (simp [keyNew, sameKey, kEq] <;> omega))); conv => whnf)
      | (refine reqK_of ?_ ?_; rotate_left; (conv => whnf); rotate_left)
      | (refine nth_rs ?_ ?_ ?_; (focus (first | omega | (simp only [List.length_nil, fx, rs_len] <;> omega))); (focus (first | omega | (simp only [List.length_nil, fx, rs_len] <;> omega))); conv => whnf)
      | (refine nth_us ?_ ?_ ?_; (focus (first | omega | (simp only [List.length_nil, fx, rs_len] <;> omega))); (focus (first | omega | (simp only [List.length_nil, fx, rs_len] <;> omega))); conv => whnf)
      | (refine nth_is ?_ ?_ ?_; (focus (first | omega | (simp only [List.length_nil, fx, rs_len] <;> omega))); (focus (first | omega | (simp only [List.length_nil, fx, rs_len] <;> omega))); conv => whnf)
      | (refine nth_bs ?_ ?_ ?_; (focus (first | omega | (simp only [List.length_nil, fx, rs_len] <;> omega))); (focus (first | omega | (simp only [List.length_nil, fx, rs_len] <;> omega))); conv => whnf))
    · rw [is_len]; have := hrow (by omega); unfold maxBytes; omega
    · rw [List.length_cons, List.length_nil]; unfold maxBytes; omega
    · refine loopC (hC (0 + 1) (by omega) (by omega)) ?_
      have e := rs_take (L := L) (k := 0) (by omega)
      rw [subL_00, hw, ownC_succ e, Int.natCast_succ]
      rfl
    · have hk3 : 0 = L.length := by omega
      have : L = [] := List.eq_nil_of_length_eq_zero hk3.symm
      subst this
      exact fun S w v hv => agg_nil _ _ _ hv
  | succ k =>
    conv => whnf
    repeat' (first
      | (refine brK_true rfl ?_; conv => whnf)
      | (refine brK_false rfl ?_; conv => whnf)
      | (refine brK_true (by assumption) ?_; conv => whnf)
      | (refine brK_false (by assumption) ?_; conv => whnf)
      | (refine brK_true ?_ ?_; (focus (simp only [List.length_nil, fx, rs_len] <;> omega)); conv => whnf)
      | (refine brK_false ?_ ?_; (focus (simp only [List.length_nil, fx, rs_len] <;> omega)); conv => whnf)
      | ((refine brK_of (fun h => ?_) (fun h => ?_)) <;> (have h2 := h; (try simp only [List.length_nil, fx, rs_len] at h2); conv => whnf))
      | (refine reqK_of ?_ ?_; (focus (first | decide | omega | assumption | (simp only [List.length_nil, fx, rs_len] <;> omega) | (simp [keyNew, sameKey, kEq] <;> omega))); conv => whnf)
      | (refine reqK_of ?_ ?_; rotate_left; (conv => whnf); rotate_left)
      | (refine nth_rs ?_ ?_ ?_; (focus (first | omega | (simp only [List.length_nil, fx, rs_len] <;> omega))); (focus (first | omega | (simp only [List.length_nil, fx, rs_len] <;> omega))); conv => whnf)
      | (refine nth_us ?_ ?_ ?_; (focus (first | omega | (simp only [List.length_nil, fx, rs_len] <;> omega))); (focus (first | omega | (simp only [List.length_nil, fx, rs_len] <;> omega))); conv => whnf)
      | (refine nth_is ?_ ?_ ?_; (focus (first | omega | (simp only [List.length_nil, fx, rs_len] <;> omega))); (focus (first | omega | (simp only [List.length_nil, fx, rs_len] <;> omega))); conv => whnf)
      | (refine nth_bs ?_ ?_ ?_; (focus (first | omega | (simp only [List.length_nil, fx, rs_len] <;> omega))); (focus (first | omega | (simp only [List.length_nil, fx, rs_len] <;> omega))); conv => whnf))
    · rw [is_len]; have := hrow (by omega); unfold maxBytes; omega
    · rw [rs_len, List.length_take, List.length_cons, List.length_nil]; unfold maxBytes; omega
    · refine loopC (hC ((k + 1) + 1) (by omega) (by omega)) ?_
      have e := rs_take (L := L) (k := (k + 1)) (by omega)
      rw [subL_00, subL_00, hw, ownC_succ e, Int.natCast_succ]
      rfl
    · have hk3 : (k + 1) = L.length := by omega
      rw [subL_00, List.take_of_length_le (by omega)]
      exact fun _ _ _ h => h
open Classical in
noncomputable def c55 : List T → Ans
  | [.agg [.int .i64 n, .list 1 xs]] => .req (IsH xs) (.agg [.int .i64 n, .list 1 xs])
  | _ => .no
theorem got55 {vs : List T} {x : T} (h : Got (c55 vs) x) : FnOk Tryd.prog tgl 55 vs x := by
  unfold c55 at h
  split at h
  · obtain ⟨hq, e⟩ := got_req h; rw [e]; exact ok55 _ _ hq
  · exact (got_no h).elim
theorem nogl55 (vs : List T) (p : Prop) (d : Decidable p) (sz : Nat) (xs : List T) (h : c55 vs = @Ans.gl p d sz xs) : False := by
  unfold c55 at h
  split at h <;> cases h
theorem pk55 (vs : List T) (p : Prop) (d : Decidable p) (x : T) (h : c55 vs = @Ans.pk p d x) (hp : p) : FnOk Tryd.prog tgl 55 vs x := by
  unfold c55 at h
  split at h
  · cases h
  · cases h
noncomputable def lH19 : List (Nat × (List T → Ans)) := (18, c18) :: (55, c55) :: (26, c26) :: (28, c28) :: lH14
noncomputable def iH19 : List (Nat × Pt) := iH14
noncomputable abbrev H19 : Env := En tgl lH19 iH19
theorem env_H19 : EnvOk Tryd.prog H19 := (env_fn (env_fn (env_fn (env_fn env_H14 (fun _ _ => got28) (fun vs p d sz xs h _ => (nogl28 vs p d sz xs h).elim) pk28) (fun _ _ => got26) (fun vs p d sz xs h _ => (nogl26 vs p d sz xs h).elim) pk26) (fun _ _ => got55) (fun vs p d sz xs h _ => (nogl55 vs p d sz xs h).elim) pk55) (fun _ _ => got18) (fun vs p d sz xs h _ => (nogl18 vs p d sz xs h).elim) pk18)
theorem ok25 (n m : Int) (xs ys : List T) (hq : IsH xs ∧ IsH ys) : FnOk Tryd.prog tgl 25 [.agg [.int .i64 n, .list 1 xs], .agg [.int .i64 m, .list 1 ys]] (.bool (hSame n m (rowsOf xs) (rowsOf ys))) := by
  refine fn_ok (Γ := H19) env_H19 Tryd.func25 low25 ?_
  conv => whnf
  repeat' (first
    | (refine brK_true rfl ?_; conv => whnf)
    | (refine brK_false rfl ?_; conv => whnf)
    | (refine brK_true (by assumption) ?_; conv => whnf)
    | (refine brK_false (by assumption) ?_; conv => whnf)
    | (refine brK_true ?_ ?_; (focus (simp only [List.length_nil, fx] <;> omega)); conv => whnf)
    | (refine brK_false ?_ ?_; (focus (simp only [List.length_nil, fx] <;> omega)); conv => whnf)
    | ((refine brK_of (fun h => ?_) (fun h => ?_)) <;> (have h2 := h; (try simp only [List.length_nil, fx] at h2); conv => whnf))
    | (refine reqK_of ?_ ?_; (focus (first | decide | omega | assumption | (simp only [List.length_nil, fx] <;> omega) | (simp [keyNew, sameKey, kEq] <;> omega))); conv => whnf)
    | (refine reqK_of ?_ ?_; rotate_left; (conv => whnf); rotate_left)
    | (refine nth_us ?_ ?_ ?_; (focus (first | omega | (simp only [List.length_nil, fx] <;> omega))); (focus (first | omega | (simp only [List.length_nil, fx] <;> omega))); conv => whnf)
    | (refine nth_is ?_ ?_ ?_; (focus (first | omega | (simp only [List.length_nil, fx] <;> omega))); (focus (first | omega | (simp only [List.length_nil, fx] <;> omega))); conv => whnf)
    | (refine nth_bs ?_ ?_ ?_; (focus (first | omega | (simp only [List.length_nil, fx] <;> omega))); (focus (first | omega | (simp only [List.length_nil, fx] <;> omega))); conv => whnf))
open Classical in
noncomputable def c25 : List T → Ans
  | [.agg [.int .i64 n, .list 1 xs], .agg [.int .i64 m, .list 1 ys]] => .req (IsH xs ∧ IsH ys) (.bool (hSame n m (rowsOf xs) (rowsOf ys)))
  | _ => .no
theorem got25 {vs : List T} {x : T} (h : Got (c25 vs) x) : FnOk Tryd.prog tgl 25 vs x := by
  unfold c25 at h
  split at h
  · obtain ⟨hq, e⟩ := got_req h; rw [e]; exact ok25 _ _ _ _ hq
  · exact (got_no h).elim
theorem nogl25 (vs : List T) (p : Prop) (d : Decidable p) (sz : Nat) (xs : List T) (h : c25 vs = @Ans.gl p d sz xs) : False := by
  unfold c25 at h
  split at h <;> cases h
theorem pk25 (vs : List T) (p : Prop) (d : Decidable p) (x : T) (h : c25 vs = @Ans.pk p d x) (hp : p) : FnOk Tryd.prog tgl 25 vs x := by
  unfold c25 at h
  split at h
  · cases h
  · cases h
def ownA (n : Int) (L : List (List Int)) : Own := [(68, .cells [.t (.int .i64 0), .t .nils]), (66, .cells [.t (.int .i64 n), .t (.list 1 (rs L))])]
def ownB (n : Int) (L : List (List Int)) (k : Nat) : Own := match k with
  | 0 => (156, .cells [.t (.int .i64 n), .t .nils]) :: (155, .cells [.t (.int .i64 0), .t .nils]) :: (154, .cells [.t (.int .i64 n), .t (.list 1 (rs L))]) :: ownA n L
  | k + 1 => (1001, .lst 1 (rs (L.take (k + 1))) 1) :: (156, .cells [.t (.int .i64 n), .sl 1001 0 none]) :: (155, .cells [.t (.int .i64 0), .t .nils]) :: (154, .cells [.t (.int .i64 n), .t (.list 1 (rs L))]) :: ownA n L
theorem ownB_succ {n : Int} {L : List (List Int)} {k : Nat} {r : List T} (e : r = rs (L.take (k + 1))) : ownB n L (k + 1) = (1001, .lst 1 r 1) :: (156, .cells [.t (.int .i64 n), .sl 1001 0 none]) :: (155, .cells [.t (.int .i64 0), .t .nils]) :: (154, .cells [.t (.int .i64 n), .t (.list 1 (rs L))]) :: ownA n L := by subst e; rfl
set_option maxRecDepth 200000 in
theorem inl_cop {n : Int} {L : List (List Int)} (hl : L.length ≤ 1048576) (hL : ∀ l ∈ L, l.length ≤ 1048576 ∧ ∀ n ∈ l, I64 n) {R : V → Own → Prop}
    (h0 : L = [] → R (aggV [.t (.int .i64 n), .t .nils]) (ownA n L)) (h1 : L ≠ [] → R (aggV [.t (.int .i64 n), .sl 1001 0 none]) ((1001, .lst 1 (rs L) 1) :: ownA n L)) : inl H14 m55 89 [.t (.agg [.int .i64 n, .list 1 (rs L)])] (ownA n L) R := by
  unfold inl ownA
  conv => whnf
  repeat' (first
    | (refine brK_true rfl ?_; conv => whnf)
    | (refine brK_false rfl ?_; conv => whnf)
    | (refine brK_true (by assumption) ?_; conv => whnf)
    | (refine brK_false (by assumption) ?_; conv => whnf)
    | (refine brK_true ?_ ?_; (focus (simp only [List.length_nil, fx, rs_len] <;> omega)); conv => whnf)
    | (refine brK_false ?_ ?_; (focus (simp only [List.length_nil, fx, rs_len] <;> omega)); conv => whnf)
    | ((refine brK_of (fun h => ?_) (fun h => ?_)) <;> (have h2 := h; (try simp only [List.length_nil, fx, rs_len] at h2); conv => whnf))
    | (refine reqK_of ?_ ?_; (focus (first | decide | omega | assumption | (simp only [List.length_nil, fx, rs_len] <;> omega) | (simp [keyNew, sameKey, kEq] <;> omega))); conv => whnf)
    | (refine reqK_of ?_ ?_; rotate_left; (conv => whnf); rotate_left)
    | (refine nth_us ?_ ?_ ?_; (focus (first | omega | (simp only [List.length_nil, fx, rs_len] <;> omega))); (focus (first | omega | (simp only [List.length_nil, fx, rs_len] <;> omega))); conv => whnf)
    | (refine nth_is ?_ ?_ ?_; (focus (first | omega | (simp only [List.length_nil, fx, rs_len] <;> omega))); (focus (first | omega | (simp only [List.length_nil, fx, rs_len] <;> omega))); conv => whnf)
    | (refine nth_bs ?_ ?_ ?_; (focus (first | omega | (simp only [List.length_nil, fx, rs_len] <;> omega))); (focus (first | omega | (simp only [List.length_nil, fx, rs_len] <;> omega))); conv => whnf))
  refine loopFn [] (fun s => nzM 177 s [.kill 8, .kill 9, .kill 10, .kill 11, .kill 12, .kill 13, .kill 14, .kill 15, .kill 16, .kill 17, .kill 18, .kill 19, .kill 20, .kill 21, .kill 22, .kill 23, .kill 24, .kill 25, .keep [177, 156, 155, 154, 68, 66], .set 177, .ren 177 1001] [.kill 8, .kill 9, .kill 10, .kill 11, .kill 12, .kill 13, .kill 14, .kill 15, .kill 16, .kill 17, .kill 18, .kill 19, .kill 20, .kill 21, .kill 22, .kill 23, .kill 24, .kill 25, .keep [177, 156, 155, 154, 68, 66], .ren 177 1001]) (fun k : Nat => [(4, .t (.int .i64 (k : Int)))]) (fun k => ownB n L k) (fun k => k ≤ L.length) (fun k => L.length - k) 0 (Nat.zero_le _) ?_
  conv => whnf
  refine ⟨⟨rfl, rfl⟩, fun k hk C hC => ?_⟩
  have hw : IntKind.i64.wrap ((k : Int) + 1) = (k : Int) + 1 := wrap_i64 ⟨by omega, by omega⟩
  have hrow : k < L.length → (row L ((k : Int) + 1)).length ≤ 1048576 := fun h => by
    rw [row_at h]; exact (hL _ (List.getElem_mem h)).1
  cases k with
  | zero =>
    conv => whnf
    repeat' (first
      | (refine brK_true rfl ?_; conv => whnf)
      | (refine brK_false rfl ?_; conv => whnf)
      | (refine brK_true (by assumption) ?_; conv => whnf)
      | (refine brK_false (by assumption) ?_; conv => whnf)
      | (refine brK_true ?_ ?_; (focus (simp only [List.length_nil, fx, rs_len] <;> omega)); conv => whnf)
      | (refine brK_false ?_ ?_; (focus (simp only [List.length_nil, fx, rs_len] <;> omega)); conv => whnf)
      | ((refine brK_of (fun h => ?_) (fun h => ?_)) <;> (have h2 := h; (try simp only [List.length_nil, fx, rs_len] at h2); conv => whnf))
      | (refine reqK_of ?_ ?_; (focus (first | decide | omega | assumption | (simp only [List.length_nil, fx, rs_len] <;> omega) | (simp [keyNew, sameKey, kEq] <;> omega))); conv => whnf)
      | (refine reqK_of ?_ ?_; rotate_left; (conv => whnf); rotate_left)
      | (refine nth_rs ?_ ?_ ?_; (focus (first | omega | (simp only [List.length_nil, fx, rs_len] <;> omega))); (focus (first | omega | (simp only [List.length_nil, fx, rs_len] <;> omega))); conv => whnf)
      | (refine nth_us ?_ ?_ ?_; (focus (first | omega | (simp only [List.length_nil, fx, rs_len] <;> omega))); (focus (first | omega | (simp only [List.length_nil, fx, rs_len] <;> omega))); conv => whnf)
      | (refine nth_is ?_ ?_ ?_; (focus (first | omega | (simp only [List.length_nil, fx, rs_len] <;> omega))); (focus (first | omega | (simp only [List.length_nil, fx, rs_len] <;> omega))); conv => whnf)
      | (refine nth_bs ?_ ?_ ?_; (focus (first | omega | (simp only [List.length_nil, fx, rs_len] <;> omega))); (focus (first | omega | (simp only [List.length_nil, fx, rs_len] <;> omega))); conv => whnf))
    · rw [is_len]; have := hrow (by omega); unfold maxBytes; omega
    · rw [List.length_cons, List.length_nil]; unfold maxBytes; omega
    · refine loopC (hC (0 + 1) (by omega) (by omega)) ?_
      have e := rs_take (L := L) (k := 0) (by omega)
      rw [subL_00, hw, ownB_succ e, Int.natCast_succ]
      rfl
    · exact h0 (List.eq_nil_of_length_eq_zero (by omega))
  | succ k =>
    conv => whnf
    repeat' (first
      | (refine brK_true rfl ?_; conv => whnf)
      | (refine brK_false rfl ?_; conv => whnf)
      | (refine brK_true (by assumption) ?_; conv => whnf)
      | (refine brK_false (by assumption) ?_; conv => whnf)
      | (refine brK_true ?_ ?_; (focus (simp only [List.length_nil, fx, rs_len] <;> omega)); conv => whnf)
      | (refine brK_false ?_ ?_; (focus (simp only [List.length_nil, fx, rs_len] <;> omega)); conv => whnf)
      | ((refine brK_of (fun h => ?_) (fun h => ?_)) <;> (have h2 := h; (try simp only [List.length_nil, fx, rs_len] at h2); conv => whnf))
      | (refine reqK_of ?_ ?_; (focus (first | decide | omega | assumption | (simp only [List.length_nil, fx, rs_len] <;> omega) | (simp [keyNew, sameKey, kEq] <;> omega))); conv => whnf)
      | (refine reqK_of ?_ ?_; rotate_left; (conv => whnf); rotate_left)
      | (refine nth_rs ?_ ?_ ?_; (focus (first | omega | (simp only [List.length_nil, fx, rs_len] <;> omega))); (focus (first | omega | (simp only [List.length_nil, fx, rs_len] <;> omega))); conv => whnf)
      | (refine nth_us ?_ ?_ ?_; (focus (first | omega | (simp only [List.length_nil, fx, rs_len] <;> omega))); (focus (first | omega | (simp only [List.length_nil, fx, rs_len] <;> omega))); conv => whnf)
      | (refine nth_is ?_ ?_ ?_; (focus (first | omega | (simp only [List.length_nil, fx, rs_len] <;> omega))); (focus (first | omega | (simp only [List.length_nil, fx, rs_len] <;> omega))); conv => whnf)
      | (refine nth_bs ?_ ?_ ?_; (focus (first | omega | (simp only [List.length_nil, fx, rs_len] <;> omega))); (focus (first | omega | (simp only [List.length_nil, fx, rs_len] <;> omega))); conv => whnf))
    · rw [is_len]; have := hrow (by omega); unfold maxBytes; omega
    · rw [rs_len, List.length_take, List.length_cons, List.length_nil]; unfold maxBytes; omega
    · refine loopC (hC ((k + 1) + 1) (by omega) (by omega)) ?_
      have e := rs_take (L := L) (k := k + 1) (by omega)
      rw [subL_00, subL_00, hw, ownB_succ e, Int.natCast_succ]
      rfl
    · have e : L.take (k + 1) = L := List.take_of_length_le (by omega)
      have h1' := h1 (fun e => by rw [e] at hk; simp at hk)
      rw [e]
      exact h1'
def ptCop : Pt := fun base args own R => ∃ n L, args = [.t (.agg [.int .i64 n, .list 1 (rs L)])] ∧ own = ownA n L ∧ (L.length ≤ 1048576 ∧ ∀ l ∈ L, l.length ≤ 1048576 ∧ ∀ n ∈ l, I64 n) ∧
  (L = [] → R (aggV [.t (.int .i64 n), .t .nils]) (ownA n L)) ∧ (L ≠ [] → R (aggV [.t (.int .i64 n), .sl 1001 0 none]) ((1001, .lst 1 (rs L) 1) :: ownA n L))
theorem ptCop_ok (base : Nat) (args : List V) (own : Own) (R : V → Own → Prop) (h : ptCop base args own R) : FnV Tryd.prog tgl 55 args own R := by
  obtain ⟨n, L, rfl, rfl, ⟨h1, h2⟩, h3, h4⟩ := h
  exact inl_ok (base := 89) env_H14 Tryd.func55 low55 (inl_cop h1 h2 h3 h4)
theorem env_ptK {P : Program} {gl : Nat → Option (List T)} {pl : List (Nat × (List T → AnsP))} {l : List (Nat × (List T → Ans))} {il : List (Nat × Pt)} {n : Nat} {g : Pt} (h : EnvOk P (EnP pl gl l il)) (hg : ∀ base args own R, g base args own R → FnV P gl n args own R) : EnvOk P (EnP pl gl l ((n, g) :: il)) := by
  refine ⟨h.fn, h.gl, h.pk, fun f base args own R hi hR => ?_, h.pn⟩
  have hR' : ptL ((n, g) :: il) f base args own R := hR
  have hi' : isL ((n, g) :: il) f = true := hi
  simp only [ptL] at hR'
  simp only [isL] at hi'
  cases e : Nat.beq n f with
  | true =>
    rw [e] at hR'
    rw [← Nat.eq_of_beq_eq_true e]
    exact hg base args own R hR'
  | false =>
    rw [e] at hR' hi'
    exact h.pt f base args own R hi' hR'
noncomputable def lH20 : List (Nat × (List T → Ans)) := (26, c26) :: lH14
noncomputable def iH20 : List (Nat × Pt) := iH14
noncomputable abbrev H20 : Env := En tgl lH20 iH20
theorem env_H20 : EnvOk Tryd.prog H20 := (env_fn env_H14 (fun _ _ => got26) (fun vs p d sz xs h _ => (nogl26 vs p d sz xs h).elim) pk26)
noncomputable def iH21 : List (Nat × Pt) := (55, ptCop) :: iH20
noncomputable abbrev H21 : Env := En tgl lH20 iH21
theorem env_H21 : EnvOk Tryd.prog H21 := env_ptK env_H20 ptCop_ok
theorem ok22 (n most : Int) (xs : List T) (hq : IsH xs ∧ I64 most) : FnOk Tryd.prog tgl 22 [.agg [.int .i64 n, .list 1 xs], .int .i64 most] (hAl n (rowsOf xs) most) := by
  obtain ⟨⟨L, rfl, hl, hL⟩, hm⟩ := hq
  have hq1 : IsH (rs L) := ⟨L, rfl, hl, hL⟩
  refine fn_okK (Γ := H21) env_H21 Tryd.func22 low22 ?_
  unfold hAl
  rw [rowsOf_rs]
  cases hr : hRight n L
  · have hr' : hRight n (rowsOf (rs L)) = false := by rw [rowsOf_rs]; exact hr
    conv => whnf
    repeat' (first
      | (refine brK_true rfl ?_; conv => whnf)
      | (refine brK_false rfl ?_; conv => whnf)
      | (refine brK_true (by assumption) ?_; conv => whnf)
      | (refine brK_false (by assumption) ?_; conv => whnf)
      | (refine brK_true ?_ ?_; (focus (simp only [List.length_nil, fx, rs_len, hr'] <;> omega)); conv => whnf)
      | (refine brK_false ?_ ?_; (focus (simp only [List.length_nil, fx, rs_len, hr'] <;> omega)); conv => whnf)
      | ((refine brK_of (fun h => ?_) (fun h => ?_)) <;> (have h2 := h; (try simp only [List.length_nil, fx, rs_len, hr'] at h2); conv => whnf))
      | (refine reqK_of ?_ ?_; (focus (first | decide | omega | assumption | (simp only [List.length_nil, fx, rs_len, hr'] <;> omega) | (simp [keyNew, sameKey, kEq] <;> omega))); conv => whnf)
      | (refine reqK_of ?_ ?_; rotate_left; (conv => whnf); rotate_left)
      | (refine nth_us ?_ ?_ ?_; (focus (first | omega | (simp only [List.length_nil, fx, rs_len, hr'] <;> omega))); (focus (first | omega | (simp only [List.length_nil, fx, rs_len, hr'] <;> omega))); conv => whnf)
      | (refine nth_is ?_ ?_ ?_; (focus (first | omega | (simp only [List.length_nil, fx, rs_len, hr'] <;> omega))); (focus (first | omega | (simp only [List.length_nil, fx, rs_len, hr'] <;> omega))); conv => whnf)
      | (refine nth_bs ?_ ?_ ?_; (focus (first | omega | (simp only [List.length_nil, fx, rs_len, hr'] <;> omega))); (focus (first | omega | (simp only [List.length_nil, fx, rs_len, hr'] <;> omega))); conv => whnf))
    rw [if_neg (by decide)]
    exact fun _ _ _ h => h
  · have hr' : hRight n (rowsOf (rs L)) = true := by rw [rowsOf_rs]; exact hr
    obtain ⟨⟨h1, h2⟩, h3⟩ := right_le hr
    conv => whnf
    repeat' (first
      | (refine brK_true rfl ?_; conv => whnf)
      | (refine brK_false rfl ?_; conv => whnf)
      | (refine brK_true (by assumption) ?_; conv => whnf)
      | (refine brK_false (by assumption) ?_; conv => whnf)
      | (refine brK_true ?_ ?_; (focus (simp only [List.length_nil, fx, rs_len, hr'] <;> omega)); conv => whnf)
      | (refine brK_false ?_ ?_; (focus (simp only [List.length_nil, fx, rs_len, hr'] <;> omega)); conv => whnf)
      | ((refine brK_of (fun h => ?_) (fun h => ?_)) <;> (have h2 := h; (try simp only [List.length_nil, fx, rs_len, hr'] at h2); conv => whnf))
      | (refine reqK_of ?_ ?_; (focus (first | decide | omega | assumption | (simp only [List.length_nil, fx, rs_len, hr'] <;> omega) | (simp [keyNew, sameKey, kEq] <;> omega))); conv => whnf)
      | (refine reqK_of ?_ ?_; rotate_left; (conv => whnf); rotate_left)
      | (refine nth_us ?_ ?_ ?_; (focus (first | omega | (simp only [List.length_nil, fx, rs_len, hr'] <;> omega))); (focus (first | omega | (simp only [List.length_nil, fx, rs_len, hr'] <;> omega))); conv => whnf)
      | (refine nth_is ?_ ?_ ?_; (focus (first | omega | (simp only [List.length_nil, fx, rs_len, hr'] <;> omega))); (focus (first | omega | (simp only [List.length_nil, fx, rs_len, hr'] <;> omega))); conv => whnf)
      | (refine nth_bs ?_ ?_ ?_; (focus (first | omega | (simp only [List.length_nil, fx, rs_len, hr'] <;> omega))); (focus (first | omega | (simp only [List.length_nil, fx, rs_len, hr'] <;> omega))); conv => whnf))
    · rw [if_pos rfl, if_neg (fun h => by omega)]; exact fun _ _ _ h => h
    · rw [if_pos rfl, if_neg (fun h => by omega)]; exact fun _ _ _ h => h
    · have hlt : (L.length : Int) < most ∧ L.length < 64 := ⟨by assumption, by omega⟩
      refine ⟨n, L, rfl, rfl, ⟨hl, hL⟩, fun e => ?_, fun e => ?_⟩
      · subst e
        conv => whnf
        repeat' (first
          | (refine brK_true rfl ?_; conv => whnf)
          | (refine brK_false rfl ?_; conv => whnf)
          | (refine brK_true (by assumption) ?_; conv => whnf)
          | (refine brK_false (by assumption) ?_; conv => whnf)
          | (refine brK_true ?_ ?_; (focus (simp only [List.length_nil, fx] <;> omega)); conv => whnf)
          | (refine brK_false ?_ ?_; (focus (simp only [List.length_nil, fx] <;> omega)); conv => whnf)
          | ((refine brK_of (fun h => ?_) (fun h => ?_)) <;> (have h2 := h; (try simp only [List.length_nil, fx] at h2); conv => whnf))
          | (refine reqK_of ?_ ?_; (focus (first | decide | omega | assumption | (simp only [List.length_nil, fx] <;> omega) | (simp [keyNew, sameKey, kEq] <;> omega))); conv => whnf)
          | (refine reqK_of ?_ ?_; rotate_left; (conv => whnf); rotate_left)
          | (refine nth_us ?_ ?_ ?_; (focus (first | omega | (simp only [List.length_nil, fx] <;> omega))); (focus (first | omega | (simp only [List.length_nil, fx] <;> omega))); conv => whnf)
          | (refine nth_is ?_ ?_ ?_; (focus (first | omega | (simp only [List.length_nil, fx] <;> omega))); (focus (first | omega | (simp only [List.length_nil, fx] <;> omega))); conv => whnf)
          | (refine nth_bs ?_ ?_ ?_; (focus (first | omega | (simp only [List.length_nil, fx] <;> omega))); (focus (first | omega | (simp only [List.length_nil, fx] <;> omega))); conv => whnf))
        · unfold maxBytes; omega
        · rw [List.length_cons, List.length_nil]; unfold maxBytes; omega
        · have e : [T.list 1 (subL (List.replicate n.toNat (T.int IntKind.i64 0)) 0 none)] = rs (([] : List (List Int)) ++ [List.replicate n.toNat 0]) := by
            rw [subL_00]; unfold rs is; simp
          have e2 : lenL (rs (([] : List (List Int)) ++ [List.replicate n.toNat 0])) 0 none = (([] : List (List Int)).length : Int) + 1 := by rw [lenL_eq]; simp
          rw [e, e2, subL_00, if_pos rfl, if_pos hlt]
          exact fun _ _ _ h => h
      · conv => whnf
        repeat' (first
          | (refine brK_true rfl ?_; conv => whnf)
          | (refine brK_false rfl ?_; conv => whnf)
          | (refine brK_true (by assumption) ?_; conv => whnf)
          | (refine brK_false (by assumption) ?_; conv => whnf)
          | (refine brK_true ?_ ?_; (focus (simp only [List.length_nil, fx, rs_len] <;> omega)); conv => whnf)
          | (refine brK_false ?_ ?_; (focus (simp only [List.length_nil, fx, rs_len] <;> omega)); conv => whnf)
          | ((refine brK_of (fun h => ?_) (fun h => ?_)) <;> (have h2 := h; (try simp only [List.length_nil, fx, rs_len] at h2); conv => whnf))
          | (refine reqK_of ?_ ?_; (focus (first | decide | omega | assumption | (simp only [List.length_nil, fx, rs_len] <;> omega) | (simp [keyNew, sameKey, kEq] <;> omega))); conv => whnf)
          | (refine reqK_of ?_ ?_; rotate_left; (conv => whnf); rotate_left)
          | (refine nth_us ?_ ?_ ?_; (focus (first | omega | (simp only [List.length_nil, fx, rs_len] <;> omega))); (focus (first | omega | (simp only [List.length_nil, fx, rs_len] <;> omega))); conv => whnf)
          | (refine nth_is ?_ ?_ ?_; (focus (first | omega | (simp only [List.length_nil, fx, rs_len] <;> omega))); (focus (first | omega | (simp only [List.length_nil, fx, rs_len] <;> omega))); conv => whnf)
          | (refine nth_bs ?_ ?_ ?_; (focus (first | omega | (simp only [List.length_nil, fx, rs_len] <;> omega))); (focus (first | omega | (simp only [List.length_nil, fx, rs_len] <;> omega))); conv => whnf))
        · unfold maxBytes; omega
        · rw [rs_len, List.length_cons, List.length_nil]; unfold maxBytes; omega
        · have e : rs L ++ [T.list 1 (subL (List.replicate n.toNat (T.int IntKind.i64 0)) 0 none)] = rs (L ++ [List.replicate n.toNat 0]) := by
            rw [subL_00]; unfold rs is; simp
          have e2 : lenL (rs (L ++ [List.replicate n.toNat 0])) 0 none = (L.length : Int) + 1 := by rw [lenL_eq]; simp
          rw [subL_00 (rs L)]
          rw [e, e2, subL_00, if_pos rfl, if_pos hlt]
          exact fun _ _ _ h => h
open Classical in
noncomputable def c22 : List T → Ans
  | [.agg [.int .i64 n, .list 1 xs], .int .i64 most] => .req (IsH xs ∧ I64 most) (hAl n (rowsOf xs) most)
  | _ => .no
theorem got22 {vs : List T} {x : T} (h : Got (c22 vs) x) : FnOk Tryd.prog tgl 22 vs x := by
  unfold c22 at h
  split at h
  · obtain ⟨hq, e⟩ := got_req h; rw [e]; exact ok22 _ _ _ hq
  · exact (got_no h).elim
theorem nogl22 (vs : List T) (p : Prop) (d : Decidable p) (sz : Nat) (xs : List T) (h : c22 vs = @Ans.gl p d sz xs) : False := by
  unfold c22 at h
  split at h <;> cases h
theorem pk22 (vs : List T) (p : Prop) (d : Decidable p) (x : T) (h : c22 vs = @Ans.pk p d x) (hp : p) : FnOk Tryd.prog tgl 22 vs x := by
  unfold c22 at h
  split at h
  · cases h
  · cases h
end Go.Nx
end
