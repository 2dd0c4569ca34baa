/-
  A part of the machine, and of what is walked.
-/
import Derived.Test.YtahlhckojmpaaaaDoorP16
import Derived.WalkKit
import Derived.Deep.RegionHeld3
import Derived.Deep.AppendLies
import Derived.IntWalk
section
set_option linter.unusedVariables false
set_option linter.unusedSimpArgs false
set_option maxRecDepth 20000
set_option maxHeartbeats 0
namespace Go.Nx
open Go Go.RowKit Go.Shelf Go.Proofs

theorem infoR : (Tryd.prog.info? 95).map (fun i => (i.zero, i.size, i.bytes)) = some (some (.slice none 0 0), 1, 24) := by kernel_rfl
theorem infoI : (Tryd.prog.info? 3).map (fun i => (i.zero, i.size, i.bytes)) = some (some (.int .i64 0), 1, 8) := by kernel_rfl
theorem row_out {w w' : World} {base n : Nat} {e : TypeId} {v : Value} {news : List Value} (h : w'.ownsRow base e 1 v n news) (hv : v ≠ .slice none 0 0) :
    ∃ (g cap : Nat) (cur : Array Value), v = .slice (some ⟨g, 0, none⟩) n cap ∧ base ≤ g ∧ w'.heap[g]? = some (.cells cur e (0, 0)) ∧ n ≤ cap ∧ cur.size = cap ∧ ∀ (j : Nat) (u : Value), news[j]? = some u → cur[j]? = some u := by
  rcases h.2 with ⟨rfl, _⟩ | ⟨g, cap, cur, rfl, hb, hg, hn, _, hcs, htk⟩
  · exact absurd rfl hv
  · refine ⟨g, cap, cur, rfl, hb, hg, hn, by omega, fun j u hu => ?_⟩
    rw [← htk, List.getElem?_take] at hu
    split at hu
    · simpa using hu
    · cases hu
theorem clone59 (b off n c : Nat) (news : List Value) (w : World) (hl : news.length = n) (hn : n ≤ 1048576) (hc : ∀ (j : Nat) (u : Value), news[j]? = some u → w.cell? ⟨b, off + j, none⟩ = some u) (h1 : ∀ u ∈ news, u.oneCell' = true) :
    Calls Tryd.prog 59 #[.slice (some ⟨b, off, none⟩) n c] w fun e w' => ∃ (g cap : Nat) (cur : Array Value), e = .returned (.slice (some ⟨g, 0, none⟩) n cap) ∧ w.heap.size ≤ g ∧ w'.heap[g]? = some (.cells cur 95 (0, 0)) ∧ n ≤ cap ∧ cur.size = cap ∧ (∀ (j : Nat) (u : Value), news[j]? = some u → cur[j]? = some u) ∧ Below w.heap.size w w' := by
  obtain ⟨i0, hi, hz0, hz1, hz2⟩ := info_parts infoR
  refine (Tryd.slices_Clone_f59 i0 (.slice none 0 0) 1 24 hi hz0 hz1 hz2 rfl (by decide) (fun _ => by kernel_rfl) b off n c news w (by omega) (by unfold maxLen; omega) (by omega) hc h1).mono ?_
  rintro e w' ⟨v', rfl, hr, hv, hb⟩
  obtain ⟨g, cap, cur, rfl, k1, k2, k3, k4, k5⟩ := row_out (w := w) hr hv
  exact ⟨g, cap, cur, rfl, k1, k2, k3, k4, k5, hb⟩
theorem clone60 (b off n c : Nat) (news : List Value) (w : World) (hl : news.length = n) (hn : n ≤ 1048576) (hc : ∀ (j : Nat) (u : Value), news[j]? = some u → w.cell? ⟨b, off + j, none⟩ = some u) (h1 : ∀ u ∈ news, u.oneCell' = true) :
    Calls Tryd.prog 60 #[.slice (some ⟨b, off, none⟩) n c] w fun e w' => ∃ (g cap : Nat) (cur : Array Value), e = .returned (.slice (some ⟨g, 0, none⟩) n cap) ∧ w.heap.size ≤ g ∧ w'.heap[g]? = some (.cells cur 3 (0, 0)) ∧ n ≤ cap ∧ cur.size = cap ∧ (∀ (j : Nat) (u : Value), news[j]? = some u → cur[j]? = some u) ∧ Below w.heap.size w w' := by
  obtain ⟨i0, hi, hz0, hz1, hz2⟩ := info_parts infoI
  refine (Tryd.slices_Clone_f60 i0 (.int .i64 0) 1 8 hi hz0 hz1 hz2 rfl (by decide) (fun _ => by kernel_rfl) b off n c news w (by omega) (by unfold maxLen; omega) (by omega) hc h1).mono ?_
  rintro e w' ⟨v', rfl, hr, hv, hb⟩
  obtain ⟨g, cap, cur, rfl, k1, k2, k3, k4, k5⟩ := row_out (w := w) hr hv
  exact ⟨g, cap, cur, rfl, k1, k2, k3, k4, k5, hb⟩
theorem put_out (w5 w : World) (B g g2 i si len cg lr cg2 : Nat) (n v : Int) (old1 old2 old3 : Value) (us rw_ : List Value) (hgB : g ≠ B + 1) (hg2B : g2 ≠ B + 1) (hgg : g ≠ g2) (hBg : B ≤ g) (hBg2 : B ≤ g2) (hBB : w.heap.size ≤ B) (hb : Below B w w5)
    (r50 : w5.cell? ⟨B + 1, 0, none⟩ = some (.int .i64 0)) (r51 : w5.cell? ⟨B + 1, 1, none⟩ = some old1) (g5i : w5.cell? ⟨g, i, none⟩ = some (.slice (some ⟨g2, 0, none⟩) lr cg2)) (g5j : ∀ j u, us[j]? = some u → j ≠ i → w5.cell? ⟨g, j, none⟩ = some u)
    (h5j : ∀ j u, rw_[j]? = some u → w5.cell? ⟨g2, j, none⟩ = some u) (h5s : w5.cell? ⟨g2, si, none⟩ = some old3) (hglt : g < w5.heap.size) (hg2lt : g2 < w5.heap.size) :
    ∀ w8, w8 = ((w5.setCell ⟨g2, si, none⟩ (.int .i64 v)).setCell ⟨B + 1, 0, none⟩ (.int .i64 n)).setCell ⟨B + 1, 1, none⟩ (.slice (some ⟨g, 0, none⟩) len cg) →
    w8.cell? ⟨B + 1, 0, none⟩ = some (.int .i64 n) ∧ w8.cell? ⟨B + 1, 1, none⟩ = some (.slice (some ⟨g, 0, none⟩) len cg) ∧ (∀ j u, us[j]? = some u → j ≠ i → w8.cell? ⟨g, j, none⟩ = some u) ∧ w8.cell? ⟨g, i, none⟩ = some (.slice (some ⟨g2, 0, none⟩) lr cg2) ∧
    (∀ j u, rw_[j]? = some u → j ≠ si → w8.cell? ⟨g2, j, none⟩ = some u) ∧ w8.cell? ⟨g2, si, none⟩ = some (.int .i64 v) ∧ Below B w w8 ∧ g < w8.heap.size ∧ g2 < w8.heap.size := by
  intro w8 h8
  have up : ∀ (b j : Nat), b ≠ B + 1 → w8.cell? ⟨b, j, none⟩ = (w5.setCell ⟨g2, si, none⟩ (.int .i64 v)).cell? ⟨b, j, none⟩ := fun b j hb => by
    rw [h8]
    exact (World.cell?_setCell_other _ _ _ _ (fun e => hb (congrArg Addr.block e).symm)).trans (World.cell?_setCell_other _ _ _ _ (fun e => hb (congrArg Addr.block e).symm))
  refine ⟨?_, ?_, ?_, ?_, ?_, ?_, ?_, ?_, ?_⟩
  · rw [h8]
    refine (World.cell?_setCell_other _ _ _ _ (by simp)).trans (World.cell?_setCell_same _ _ _ (u := .int .i64 0) ?_)
    exact (World.cell?_setCell_other _ _ _ _ (fun e => hg2B (congrArg Addr.block e))).trans r50
  · rw [h8]
    refine World.cell?_setCell_same _ _ _ (u := old1) ?_
    refine (World.cell?_setCell_other _ _ _ _ (by simp)).trans ?_
    exact (World.cell?_setCell_other _ _ _ _ (fun e => hg2B (congrArg Addr.block e))).trans r51
  · intro j u hj hne
    exact (up g j hgB).trans ((World.cell?_setCell_other _ _ _ _ (fun e => hgg (congrArg Addr.block e).symm)).trans (g5j j u hj hne))
  · exact (up g i hgB).trans ((World.cell?_setCell_other _ _ _ _ (fun e => hgg (congrArg Addr.block e).symm)).trans g5i)
  · intro j u hj hne
    exact (up g2 j hg2B).trans ((World.cell?_setCell_other _ _ _ _ (fun e => hne (congrArg Addr.off e).symm)).trans (h5j j u hj))
  · exact (up g2 si hg2B).trans (World.cell?_setCell_same _ _ _ h5s)
  · rw [h8]; exact ((hb.setCell hBg2 _).setCell (Nat.le_succ B) _).setCell (Nat.le_succ B) _
  · rw [h8]; simpa [World.setCell] using hglt
  · rw [h8]; simpa [World.setCell] using hg2lt
theorem put_calls (n o s v : Int) (b0 o0 cap len br or_ lr cr : Nat) (w : World) (R : Ending → World → Prop) (us rw_ : List Value)
    (hb0 : b0 < w.heap.size) (hlen : us.length = len) (hcap : len ≤ cap) (hbig : len ≤ 1048576) (hus : ∀ j u, us[j]? = some u → w.cell? ⟨b0, o0 + j, none⟩ = some u) (hus1 : ∀ u ∈ us, u.oneCell' = true)
    (ho : 1 ≤ o ∧ o ≤ len) (hrow : us[(o - 1).toNat]? = some (.slice (some ⟨br, or_, none⟩) lr cr)) (hbr : br < w.heap.size) (hrl : rw_.length = lr) (hlr : lr ≤ 1048576) (hrw : ∀ j u, rw_[j]? = some u → w.cell? ⟨br, or_ + j, none⟩ = some u) (hrw1 : ∀ u ∈ rw_, u.oneCell' = true)
    (hs : 0 ≤ s ∧ s < lr) (hv : 0 ≤ v ∧ v ≤ len)
    (hth : Calls Tryd.prog 57 #[.agg #[.int .i64 n, .slice (some ⟨b0, o0, none⟩) len cap], .int .i64 o, .int .i64 s] ((w.alloc (.cells #[.int .i64 n, .slice (some ⟨b0, o0, none⟩) len cap] 55)).alloc (.cells #[.int .i64 0, .slice none 0 0] 55))
      fun e w' => e = .returned (.bool true) ∧ Below (w.heap.size + 2) ((w.alloc (.cells #[.int .i64 n, .slice (some ⟨b0, o0, none⟩) len cap] 55)).alloc (.cells #[.int .i64 0, .slice none 0 0] 55)) w')
    (hR : ∀ (w' : World) (g cg g2 cg2 : Nat), Below w.heap.size w w' → w.heap.size ≤ g → g < w'.heap.size → w.heap.size ≤ g2 → g2 < w'.heap.size → len ≤ cg → lr ≤ cg2 → (∀ j u, us[j]? = some u → j ≠ (o - 1).toNat → w'.cell? ⟨g, j, none⟩ = some u) → w'.cell? ⟨g, (o - 1).toNat, none⟩ = some (.slice (some ⟨g2, 0, none⟩) lr cg2) →
      (∀ j u, rw_[j]? = some u → j ≠ s.toNat → w'.cell? ⟨g2, j, none⟩ = some u) → w'.cell? ⟨g2, s.toNat, none⟩ = some (.int .i64 v) → R (.returned (.tuple #[.agg #[.int .i64 n, .slice (some ⟨g, 0, none⟩) len cg], .bool true])) w') :
    Calls Tryd.prog 35 #[.agg #[.int .i64 n, .slice (some ⟨b0, o0, none⟩) len cap], .int .i64 o, .int .i64 s, .int .i64 v] w R := by
  have hz : Tryd.prog.info? 95 = Tryd.prog.info? 95 := rfl
  go_enter Tryd.func35, Tryd.ntmps35
  go_wp2_with (go_at_call 57; refine hth.mono ?_; rintro e w1 ⟨rfl, hb1⟩; have c0 : w1.cell? ⟨w.heap.size, 0, none⟩ = some (.int .i64 n) := (hb1.cell (by simp)).trans (by simp); have c1 : w1.cell? ⟨w.heap.size, 1, none⟩ = some (.slice (some ⟨b0, o0, none⟩) len cap) := (hb1.cell (by simp)).trans (by simp); have f1 : w1.frozen? ⟨w.heap.size, 1, none⟩ = false := (hb1.frozen (by simp)).trans (by simp); have d0 : w1.cell? ⟨w.heap.size + 1, 0, none⟩ = some (.int .i64 0) := (hb1.cell (by simp)).trans (by simp); have d1 : w1.cell? ⟨w.heap.size + 1, 1, none⟩ = some (.slice none 0 0) := (hb1.cell (by simp)).trans (by simp); have e0 : ∀ j, w1.frozen? ⟨w.heap.size + 1, j, none⟩ = false := fun j => (hb1.frozen (by simp)).trans (by simp))
  have past1 : ∀ k i, k < w.heap.size → w1.cell? ⟨k, i, none⟩ = w.cell? ⟨k, i, none⟩ := fun k i hk => (hb1.cell (show k < _ by omega)).trans ((World.cell?_alloc_past _ _ _ (by simp; omega)).trans (World.cell?_alloc_past _ _ _ hk))
  have hs1 : w.heap.size + 2 ≤ w1.heap.size := by have := hb1.size; simp at this; omega
  refine (clone59 b0 o0 len cap us w1 hlen hbig (fun j u hj => (past1 _ _ hb0).trans (hus j u hj)) hus1).mono ?_
  rintro e w2 ⟨g, cg, cur, rfl, hg1, hg2, hg3, hg4, hg5, hb2⟩
  have hs2 := hb2.size
  have c0' : w2.cell? ⟨w.heap.size, 0, none⟩ = some (.int .i64 n) := (hb2.cell (show w.heap.size < _ by omega)).trans c0
  have c1' : w2.cell? ⟨w.heap.size, 1, none⟩ = some (.slice (some ⟨b0, o0, none⟩) len cap) := (hb2.cell (show w.heap.size < _ by omega)).trans c1
  have f1' : w2.frozen? ⟨w.heap.size, 1, none⟩ = false := (hb2.frozen (show w.heap.size < _ by omega)).trans f1
  dsimp only
  go_wp2_with fail
  have hgne : w.heap.size ≠ g := by omega
  have d0' := (hb2.cell (p := ⟨w.heap.size + 1, 0, none⟩) (show w.heap.size + 1 < _ by omega)).trans d0
  have d1' := (hb2.cell (p := ⟨w.heap.size + 1, 1, none⟩) (show w.heap.size + 1 < _ by omega)).trans d1
  have e0' := fun j => (hb2.frozen (p := ⟨w.heap.size + 1, j, none⟩) (show w.heap.size + 1 < _ by omega)).trans (e0 j)
  have past2 : ∀ k i, k < w.heap.size → w2.cell? ⟨k, i, none⟩ = w.cell? ⟨k, i, none⟩ := fun k i hk => (hb2.cell (show k < _ by omega)).trans (past1 k i hk)
  obtain ⟨w3, hw3⟩ : ∃ w3, w3 = w2.setCell ⟨w.heap.size, 1, none⟩ (.slice (some ⟨g, 0, none⟩) len cg) := ⟨_, rfl⟩
  have c30 : w3.cell? ⟨w.heap.size, 0, none⟩ = some (.int .i64 n) := by rw [hw3]; exact (World.cell?_setCell_other _ _ _ _ (by simp)).trans c0'
  have c31 : w3.cell? ⟨w.heap.size, 1, none⟩ = some (.slice (some ⟨g, 0, none⟩) len cg) := by rw [hw3]; exact World.cell?_setCell_same _ _ _ c1'
  have c3g : ∀ j u, us[j]? = some u → w3.cell? ⟨g, j, none⟩ = some u := fun j u hj => by
    rw [hw3]; refine (World.cell?_setCell_other _ _ _ _ (fun e => hgne (congrArg Addr.block e))).trans ?_
    simp [World.cell?, hg2]; exact hg5 j u hj
  have past3 : ∀ k i, k < w.heap.size → w3.cell? ⟨k, i, none⟩ = w.cell? ⟨k, i, none⟩ := fun k i hk => by
    rw [hw3]; exact (World.cell?_setCell_other _ _ _ _ (fun e => Nat.ne_of_gt hk (congrArg Addr.block e))).trans (past2 k i hk)
  have f3g : w3.frozen? ⟨g, (o - 1).toNat, none⟩ = false := by
    rw [hw3]
    refine (World.frozen?_of_block (w := w2) (Below.heap_setCell _ _ _ _ (show g ≠ w.heap.size from Ne.symm hgne))).trans ?_
    simp [World.frozen?, hg2]
  have d30 : w3.cell? ⟨w.heap.size + 1, 0, none⟩ = some (.int .i64 0) := by rw [hw3]; exact (World.cell?_setCell_other _ _ _ _ (by simp)).trans d0'
  have d31 : w3.cell? ⟨w.heap.size + 1, 1, none⟩ = some (.slice none 0 0) := by rw [hw3]; exact (World.cell?_setCell_other _ _ _ _ (by simp)).trans d1'
  have e30 : ∀ j, w3.frozen? ⟨w.heap.size + 1, j, none⟩ = false := fun j => by
    rw [hw3]
    exact (World.frozen?_of_block (w := w2) (Below.heap_setCell _ _ _ _ (show w.heap.size + 1 ≠ w.heap.size by omega))).trans (e0' j)
  have hbw3 : Below w.heap.size w w3 := by
    rw [hw3]
    exact ((((Below.refl _ w).alloc (Nat.le_refl _) _).alloc (by simp) _).trans (hb1.mono (by omega))).trans (hb2.mono (by omega)) |>.setCell (Nat.le_refl _) _
  rw [← hw3]
  have hoi : (o - 1).toNat < us.length := by omega
  have hwo : IntKind.i64.wrap (o - 1) = o - 1 := wrap_i64 ⟨by omega, by omega⟩
  have crow := c3g _ _ hrow
  have hs3 : w3.heap.size = w2.heap.size := by rw [hw3]; simp [World.setCell]
  have hg3' : g < w3.heap.size := by rw [hs3]; exact (Array.getElem?_eq_some_iff.1 hg2).1
  have hoj : 0 ≤ o - 1 := by omega
  have hoj2 : o - 1 < (len : Int) := by omega
  clear hth hb1 hb2 c0 c1 f1 c0' c1' f1' past1 past2 hg2 hg5 hus hw3 d0 d1 e0 d0' d1' e0'
  have past3d : ∀ k i, k < w.heap.size → w3.drew.cell? ⟨k, i, none⟩ = w.cell? ⟨k, i, none⟩ := past3
  obtain ⟨i, hi⟩ : ∃ i : Nat, o - 1 = (i : Int) := ⟨(o - 1).toNat, by omega⟩
  have hit : (o - 1).toNat = i := by omega
  rw [hit] at crow hoi hrow f3g
  rw [hi] at hwo hoj hoj2
  go_region_law (first
    | (go_simp; go_at_call 60; refine (clone60 br or_ lr cr rw_ w3.drew hrl hlr (fun j u hj => (past3d _ _ hbr).trans (hrw j u hj)) hrw1).mono ?_; rintro e w4 ⟨g2, cg2, cur2, rfl, hh1, hh2, hh3, hh4, hh5, hb4⟩; have k1 : w4.cell? ⟨w.heap.size, 1, none⟩ = some (.slice (some ⟨g, 0, none⟩) len cg) := (hb4.cell (show w.heap.size < _ by simp; omega)).trans c31; have k2 : w4.cell? ⟨g, i, none⟩ = some (.slice (some ⟨br, or_, none⟩) lr cr) := (hb4.cell (show g < _ by simp; omega)).trans crow; have k3 : w4.frozen? ⟨g, i, none⟩ = false := (hb4.frozen (show g < _ by simp; omega)).trans f3g))
  all_goals
    have hs4 := hb4.size
    have hs4' : w3.heap.size ≤ w4.heap.size := hs4
    have q0 : w4.cell? ⟨w.heap.size, 0, none⟩ = some (.int .i64 n) := (hb4.cell (show w.heap.size < w3.heap.size by omega)).trans c30
    have r0 : w4.cell? ⟨w.heap.size + 1, 0, none⟩ = some (.int .i64 0) := (hb4.cell (show w.heap.size + 1 < w3.heap.size by omega)).trans d30
    have r1 : w4.cell? ⟨w.heap.size + 1, 1, none⟩ = some (.slice none 0 0) := (hb4.cell (show w.heap.size + 1 < w3.heap.size by omega)).trans d31
    have r2 : ∀ j, w4.frozen? ⟨w.heap.size + 1, j, none⟩ = false := fun j => (hb4.frozen (show w.heap.size + 1 < w3.heap.size by omega)).trans (e30 j)
    have hh1' : w3.heap.size ≤ g2 := hh1
    have hgg : g ≠ g2 := by omega
    obtain ⟨w5, hw5⟩ : ∃ w5, w5 = w4.setCell ⟨g, i, none⟩ (.slice (some ⟨g2, 0, none⟩) lr cg2) := ⟨_, rfl⟩
    rw [← hw5]
    have oth : ∀ (b j : Nat), b ≠ g → w5.cell? ⟨b, j, none⟩ = w4.cell? ⟨b, j, none⟩ := fun b j hb => by
      rw [hw5]; exact World.cell?_setCell_other _ _ _ _ (fun e => hb (congrArg Addr.block e).symm)
    have othf : ∀ (b j : Nat), b ≠ g → w5.frozen? ⟨b, j, none⟩ = w4.frozen? ⟨b, j, none⟩ := fun b j hb => by
      rw [hw5]; exact World.frozen?_of_block (w := w4) (Below.heap_setCell _ _ _ _ hb)
    have q50 := (oth w.heap.size 0 hgne).trans q0
    have q51 := (oth w.heap.size 1 hgne).trans k1
    have r50 := (oth (w.heap.size + 1) 0 (by omega)).trans r0
    have r51 := (oth (w.heap.size + 1) 1 (by omega)).trans r1
    have r52 : w5.frozen? ⟨w.heap.size + 1, 0, none⟩ = false := (othf (w.heap.size + 1) 0 (by omega)).trans (r2 0)
    have r53 : w5.frozen? ⟨w.heap.size + 1, 1, none⟩ = false := (othf (w.heap.size + 1) 1 (by omega)).trans (r2 1)
    have g5i : w5.cell? ⟨g, i, none⟩ = some (.slice (some ⟨g2, 0, none⟩) lr cg2) := by rw [hw5]; exact World.cell?_setCell_same _ _ _ k2
    have g5j : ∀ j u, us[j]? = some u → j ≠ i → w5.cell? ⟨g, j, none⟩ = some u := fun j u hj hne => by
      rw [hw5]
      exact ((World.cell?_setCell_other _ _ _ _ (fun e => hne (congrArg Addr.off e).symm)).trans (hb4.cell (show g < w3.heap.size from hg3'))).trans (c3g j u hj)
    have h5j : ∀ j u, rw_[j]? = some u → w5.cell? ⟨g2, j, none⟩ = some u := fun j u hj => (oth g2 j (Ne.symm hgg)).trans (by simp [World.cell?, hh2]; exact hh5 j u hj)
    have h5f : ∀ j, w5.frozen? ⟨g2, j, none⟩ = false := fun j => (othf g2 j (Ne.symm hgg)).trans (by simp [World.frozen?, hh2])
    have hg2lt : g2 < w5.heap.size := by rw [hw5]; have := (Array.getElem?_eq_some_iff.1 hh2).1; simpa [World.setCell] using this
    have hglt : g < w5.heap.size := by rw [hw5]; simp [World.setCell]; omega
    have hbw5 : Below w.heap.size w w5 := by
      have hb4' : Below w3.heap.size w3 w4 := ⟨hb4.os, hb4.tape, hb4.output, hb4.size, hb4.block⟩
      rw [hw5]; exact (hbw3.trans (hb4'.mono (show w.heap.size ≤ w3.heap.size by omega))).setCell (show w.heap.size ≤ g by omega) _
    obtain ⟨si, hsi⟩ : ∃ si : Nat, s = (si : Int) := ⟨s.toNat, by omega⟩
    have hsit : s.toNat = si := by omega
    subst hsi
    have hsl : si < rw_.length := by omega
    have h5s := h5j si rw_[si] (List.getElem?_eq_getElem hsl)
    have h5fs := h5f si
    have hBg : w.heap.size ≤ g := by omega
    have hBg2 : w.heap.size ≤ g2 := by omega
    have hgB : g ≠ w.heap.size + 1 := by omega
    have hg2B : g2 ≠ w.heap.size + 1 := by omega
    clear hw5 hb4 hh2 hh5 hbw3 c3g past3 past3d e30 r2
    go_wp2_with fail
    obtain ⟨z0, z1, zg, zi, z2, zs, zb, zg1, zg2⟩ := put_out w5 w w.heap.size g g2 i si len cg lr cg2 n v (.slice none 0 0) (.int .i64 0) rw_[si] us rw_ hgB hg2B hgg hBg hBg2 (Nat.le_refl _) hbw5 r50 r51 g5i g5j h5j h5s hglt hg2lt _ rfl
    have fin : R _ _ := hR _ g cg g2 cg2 zb hBg zg1 hBg2 zg2 hg3 hh3 (by rw [hit]; exact zg) (by rw [hit]; exact zi) (by rw [hsit]; exact z2) (by rw [hsit]; exact zs)
    clear hR
    refine bodyPost_ret (v := .tuple #[.agg #[.int .i64 n, .slice (some ⟨g, 0, none⟩) len cg], .bool true]) ?_ rfl fin
    simp [results, Tryd.results35, go_sem, z0, z1]
end Go.Nx
end
section
set_option linter.unusedVariables false
set_option linter.unusedSimpArgs false
set_option maxRecDepth 20000
set_option maxHeartbeats 4000000
namespace Go.Nx
open Go Go.RowKit Go.Proofs

theorem list_in {S : Cells} {w : World} {xs : List T} {v : Value} (h : RelT S w (.list 1 xs) v) (hne : xs ≠ []) (h1 : ∀ x ∈ xs, x.cells = [x]) :
    ∃ (b o cap : Nat) (us : List Value), v = .slice (some ⟨b, o, none⟩) xs.length cap ∧ us.length = xs.length ∧ xs.length ≤ cap ∧ (∀ (j : Nat) (u : Value), us[j]? = some u → S b (o + j) ∧ w.cell? ⟨b, o + j, none⟩ = some u) ∧ ∀ (j : Nat) (x : T) (u : Value), xs[j]? = some x → us[j]? = some u → RelT S w x u := by
  cases h with
  | list sz xs a cap u hcap ha hsz hr =>
    obtain ⟨b, o, rfl, hc⟩ := ha hne
    refine ⟨b, o, cap, (List.range xs.length).map (fun i => u i 0), rfl, by simp, hcap, fun j x hj => ?_, fun j x y hx hy => ?_⟩
    · have hlt : j < xs.length := by have := (List.getElem?_eq_some_iff.1 hj).1; simpa using this
      rw [List.getElem?_map, List.getElem?_range hlt] at hj
      simp only [Option.map_some, Option.some.injEq] at hj
      subst hj
      have := hc j 0 hlt (by omega)
      simpa using this
    · have hlt : j < xs.length := (List.getElem?_eq_some_iff.1 hx).1
      rw [List.getElem?_map, List.getElem?_range hlt] at hy
      simp only [Option.map_some, Option.some.injEq] at hy
      subst hy
      exact hr j x hx 0 x (by rw [h1 x (List.mem_of_getElem? hx)]; rfl)
theorem list_out {S : Cells} {w : World} {xs : List T} {g cap : Nat} (us : Nat → Value) (hcap : xs.length ≤ cap) (hc : ∀ j, j < xs.length → S g j ∧ w.cell? ⟨g, j, none⟩ = some (us j)) (h1 : ∀ x ∈ xs, x.cells = [x] ∧ x.one = true)
    (hr : ∀ j x, xs[j]? = some x → RelT S w x (us j)) : RelT S w (.list 1 xs) (.slice (some ⟨g, 0, none⟩) xs.length cap) := by
  refine .list 1 xs _ cap (fun i _ => us i) hcap (fun _ => ⟨g, 0, rfl, fun i j hi hj => ?_⟩) (fun x hx => ⟨by rw [(h1 x hx).1]; rfl, fun c hc' => ?_⟩) (fun i x hx j c hc' => ?_)
  · have e : j = 0 := by omega
    subst e
    simpa using hc i hi
  · rw [(h1 x hx).1, List.mem_singleton] at hc'; subst hc'; exact (h1 _ hx).2
  · rw [(h1 x (List.mem_of_getElem? hx)).1] at hc'
    match j with
    | 0 => simp at hc'; subst hc'; exact hr i x hx
    | j + 1 => simp at hc'
theorem rs_cells (L : List (List Int)) : ∀ x ∈ rs L, x.cells = [x] ∧ x.one = true := fun x hx => by
  obtain ⟨l, _, rfl⟩ := List.mem_map.1 hx
  exact ⟨rfl, rfl⟩
theorem is_cells (l : List Int) : ∀ x ∈ is l, x.cells = [x] ∧ x.one = true := fun x hx => by
  obtain ⟨n, _, rfl⟩ := List.mem_map.1 hx
  exact ⟨rfl, rfl⟩
def hPutOk (L : List (List Int)) (o s v : Int) : Bool := hThere L o s && (decide (0 ≤ v) && decide (v ≤ L.length))
def hSet (L : List (List Int)) (o s v : Int) : List (List Int) := L.set (o - 1).toNat ((row L o).set s.toNat v)
def hPut (n : Int) (L : List (List Int)) (o s v : Int) : T := if hPutOk L o s v then .tup [.agg [.int .i64 n, .list 1 (rs (hSet L o s v))], .bool true] else .tup [.agg [.int .i64 n, .list 1 (rs L)], .bool false]
theorem rs_set (L : List (List Int)) (o s v : Int) : rs (hSet L o s v) = (rs L).set (o - 1).toNat (.list 1 ((is (row L o)).set s.toNat (.int .i64 v))) := by
  unfold rs hSet is
  rw [List.map_set, List.map_set]
theorem glOk_keep {gl : Gl} {S : Cells} {w w' : World} (hS : ∀ b o, S b o → b < w.heap.size) (h : ∀ b o, b < w.heap.size → w'.cell? ⟨b, o, none⟩ = w.cell? ⟨b, o, none⟩) (hg : GlOk gl S w) : GlOk gl S w' := fun g cs e i c hc => by
  obtain ⟨h1, u, h2, h3⟩ := hg g cs e i c hc
  exact ⟨h1, u, (h _ _ (hS _ _ h1)).trans h2, h3.mono (fun _ _ h => h) (fun b o hb => h _ _ (hS _ _ hb))⟩
theorem put_yes (n o s v : Int) (L : List (List Int)) (hl : L.length ≤ 1048576) (hL : ∀ l ∈ L, l.length ≤ 1048576 ∧ ∀ n ∈ l, I64 n) (hq : I64 o ∧ I64 s ∧ I64 v) (hh : hPutOk L o s v = true) (he : Enter Tryd.prog 35) :
    FnOk Tryd.prog tgl 35 [.agg [.int .i64 n, .list 1 (rs L)], .int .i64 o, .int .i64 s, .int .i64 v] (.tup [.agg [.int .i64 n, .list 1 (rs (hSet L o s v))], .bool true]) := by
  refine ⟨he, fun S w args hS hgl hn ha => ?_⟩
  unfold hPutOk at hh
  simp only [Bool.and_eq_true, decide_eq_true_eq] at hh
  obtain ⟨hth, hv0, hv1⟩ := hh
  obtain ⟨t1, t2, t3, t4⟩ := hThere_iff.1 hth
  have hn4 : args.size = 4 := hn
  obtain ⟨a0, a1, a2, a3, rfl⟩ : ∃ a0 a1 a2 a3, args = #[a0, a1, a2, a3] := by
    obtain ⟨l⟩ := args
    match l, hn4 with
    | [a, b, c, d], _ => exact ⟨a, b, c, d, rfl⟩
  have r0 := ha 0 _ a0 rfl rfl
  have r1 := (ha 1 _ a1 rfl rfl).int_of
  have r2 := (ha 2 _ a2 rfl rfl).int_of
  have r3 := (ha 3 _ a3 rfl rfl).int_of
  subst r1 r2 r3
  obtain ⟨arr, rfl, hsz, hin⟩ := r0.agg_of
  have hsz2 : arr.size = 2 := hsz
  obtain ⟨c0, c1, rfl⟩ : ∃ c0 c1, arr = #[c0, c1] := by
    obtain ⟨l⟩ := arr
    match l, hsz2 with
    | [a, b], _ => exact ⟨a, b, rfl⟩
  have q0 := (hin 0 _ c0 rfl rfl).int_of
  have q1 := hin 1 _ c1 rfl rfl
  subst q0
  have hne : rs L ≠ [] := fun e => by have := congrArg List.length e; rw [rs_len] at this; simp at this; rw [this] at t2; simp at t2; omega
  obtain ⟨b0, o0, cap, us, rfl, hul, hcap, hus, hur⟩ := list_in q1 hne (fun x hx => (rs_cells L x hx).1)
  rw [rs_len] at hul hcap
  have hoL : (o - 1).toNat < L.length := by omega
  have erow : L[(o - 1).toNat]? = some (row L o) := by unfold row; rw [List.getElem?_eq_getElem hoL]; rfl
  have hx : (rs L)[(o - 1).toNat]? = some (.list 1 (is (row L o))) := by unfold rs; rw [List.getElem?_map, erow]; rfl
  have hu : us[(o - 1).toNat]? = some (us[(o - 1).toNat]'(by omega)) := List.getElem?_eq_getElem _
  have hrow := hur _ _ _ hx hu
  have hrm : row L o ∈ L := row_mem t1 t2
  have hne2 : is (row L o) ≠ [] := fun e => by have := congrArg List.length e; rw [is_len] at this; simp at this; rw [this] at t4; simp at t4; omega
  obtain ⟨br, or_, cr, rw_, ev, hrl, hrc, hrw, hrr⟩ := list_in hrow hne2 (fun x hx => (is_cells _ x hx).1)
  rw [is_len] at hrl hrc ev
  rw [ev] at hu
  rw [rs_len]
  refine put_calls n o s v b0 o0 cap L.length br or_ (row L o).length cr w _ us rw_ ?_ hul hcap hl (fun j u hj => (hus j u hj).2) ?_ ⟨t1, t2⟩ hu ?_ hrl (hL _ hrm).1 (fun j u hj => (hrw j u hj).2) ?_ ⟨t3, t4⟩ ⟨hv0, hv1⟩ ?_ ?_
  · exact hS _ _ (hus _ _ hu).1
  · intro u hu'
    obtain ⟨j, hj, rfl⟩ := List.mem_iff_getElem.1 hu'
    have hj' : j < (rs L).length := by rw [rs_len]; omega
    have := hur j _ _ (List.getElem?_eq_getElem hj') (List.getElem?_eq_getElem hj)
    have hc := (rs_cells L _ (List.getElem_mem hj')).2
    generalize (rs L)[j] = x at this hc
    generalize us[j] = y at this ⊢
    cases this <;> first | rfl | cases hc
  · exact hS _ _ (hrw 0 _ (List.getElem?_eq_getElem (by omega))).1
  · intro u hu'
    obtain ⟨j, hj, rfl⟩ := List.mem_iff_getElem.1 hu'
    have hj' : j < (is (row L o)).length := by rw [is_len]; omega
    have := hrr j _ _ (List.getElem?_eq_getElem hj') (List.getElem?_eq_getElem hj)
    have hc := (is_cells _ _ (List.getElem_mem hj')).2
    generalize (is (row L o))[j] = x at this hc
    generalize rw_[j] = y at this ⊢
    cases this <;> first | rfl | cases hc
  · have hcl : ∀ b j, b < w.heap.size → ((w.alloc (.cells #[.int .i64 n, .slice (some ⟨b0, o0, none⟩) L.length cap] 55)).alloc (.cells #[.int .i64 0, .slice none 0 0] 55)).cell? ⟨b, j, none⟩ = w.cell? ⟨b, j, none⟩ := fun b j hb =>
      (World.cell?_alloc_past _ _ _ (by simp; omega)).trans (World.cell?_alloc_past _ _ _ hb)
    have hk := (ok57 n o s (rs L) ⟨⟨L, rfl, hl, hL⟩, hq.1, hq.2.1⟩).2 S _ #[.agg #[.int .i64 n, .slice (some ⟨b0, o0, none⟩) L.length cap], .int .i64 o, .int .i64 s] (fun b j hb => by have := hS b j hb; simp; omega) (glOk_keep hS hcl hgl) rfl (fun i c u hc hu => ?_)
    · refine hk.mono ?_
      rintro e w' ⟨u, rfl, hr, hb⟩
      rw [rowsOf_rs, hth] at hr
      have := hr.bool_of
      subst this
      exact ⟨rfl, by simpa using hb⟩
    · have hm : ∀ x u, RelT S w x u → RelT S ((w.alloc (.cells #[.int .i64 n, .slice (some ⟨b0, o0, none⟩) L.length cap] 55)).alloc (.cells #[.int .i64 0, .slice none 0 0] 55)) x u := fun x u h => h.mono (fun _ _ h => h) (fun b j hb => hcl b j (hS _ _ hb))
      match i with
      | 0 =>
        simp at hc hu; subst hc hu
        have := hm _ _ (ha 0 _ _ rfl rfl)
        rw [rs_len] at this
        exact this
      | 1 => simp at hc hu; subst hc hu; exact .int _ _
      | 2 => simp at hc hu; subst hc hu; exact .int _ _
      | i + 3 => simp at hc
  · intro w' g cg g2 cg2 hb hg hg' hg2 hg2' hcg hcg2 hc1 hc2 hc3 hc4
    refine ⟨_, rfl, ?_, hb⟩
    have keep : ∀ x u, RelT S w x u → RelT (fresh S w w') w' x u := fun x u h => h.mono (fun _ _ h => Or.inl h) (fun b j hb' => hb.cell (hS _ _ hb'))
    have Rrow : RelT (fresh S w w') w' (.list 1 ((is (row L o)).set s.toNat (.int .i64 v))) (.slice (some ⟨g2, 0, none⟩) (row L o).length cg2) := by
      have hlen : ((is (row L o)).set s.toNat (.int .i64 v)).length = (row L o).length := by rw [List.length_set, is_len]
      have := list_out (S := fresh S w w') (w := w') (xs := (is (row L o)).set s.toNat (.int .i64 v)) (g := g2) (cap := cg2) (fun j => if j = s.toNat then .int .i64 v else rw_.getD j (.bool false)) (by rw [hlen]; exact hcg2) (fun j hj => ⟨.inr ⟨hg2, hg2'⟩, ?_⟩) (fun x hx => ?_) (fun j x hx => ?_)
      · rw [hlen] at this; exact this
      · rw [hlen] at hj
        by_cases e : j = s.toNat
        · rw [if_pos e, e]; exact hc4
        · rw [if_neg e]
          have hj2 : j < rw_.length := by omega
          rw [List.getD_eq_getElem?_getD, List.getElem?_eq_getElem hj2]
          exact hc3 j _ (List.getElem?_eq_getElem hj2) e
      · rcases List.mem_or_eq_of_mem_set hx with h | rfl
        · exact is_cells _ _ h
        · exact ⟨rfl, rfl⟩
      · by_cases e : j = s.toNat
        · rw [if_pos e]; subst e
          rw [List.getElem?_set_self (by rw [is_len]; omega)] at hx
          injection hx with hx; subst hx; exact .int _ _
        · rw [if_neg e]
          rw [List.getElem?_set_ne (Ne.symm e)] at hx
          have hj2 : j < rw_.length := by have := (List.getElem?_eq_some_iff.1 hx).1; rw [is_len] at this; omega
          rw [List.getD_eq_getElem?_getD, List.getElem?_eq_getElem hj2]
          exact keep _ _ (hrr j x _ hx (List.getElem?_eq_getElem hj2))
    have Rall : RelT (fresh S w w') w' (.list 1 (rs (hSet L o s v))) (.slice (some ⟨g, 0, none⟩) L.length cg) := by
      have hlen : (rs (hSet L o s v)).length = L.length := by rw [rs_len]; unfold hSet; rw [List.length_set]
      have := list_out (S := fresh S w w') (w := w') (xs := rs (hSet L o s v)) (g := g) (cap := cg) (fun j => if j = (o - 1).toNat then .slice (some ⟨g2, 0, none⟩) (row L o).length cg2 else us.getD j (.bool false)) (by rw [hlen]; exact hcg) (fun j hj => ⟨.inr ⟨hg, hg'⟩, ?_⟩) (rs_cells _) (fun j x hx => ?_)
      · rw [hlen] at this; exact this
      · rw [hlen] at hj
        by_cases e : j = (o - 1).toNat
        · rw [if_pos e, e]; exact hc2
        · rw [if_neg e]
          have hj2 : j < us.length := by omega
          rw [List.getD_eq_getElem?_getD, List.getElem?_eq_getElem hj2]
          exact hc1 j _ (List.getElem?_eq_getElem hj2) e
      · rw [rs_set] at hx
        by_cases e : j = (o - 1).toNat
        · rw [if_pos e]; subst e
          rw [List.getElem?_set_self (by rw [rs_len]; omega)] at hx
          injection hx with hx; subst hx; exact Rrow
        · rw [if_neg e]
          rw [List.getElem?_set_ne (Ne.symm e)] at hx
          have hj2 : j < us.length := by have := (List.getElem?_eq_some_iff.1 hx).1; rw [rs_len] at this; omega
          rw [List.getD_eq_getElem?_getD, List.getElem?_eq_getElem hj2]
          exact keep _ _ (hur j x _ hx (List.getElem?_eq_getElem hj2))
    refine .tup _ _ rfl fun i c u hc hu => ?_
    match i with
    | 0 =>
      simp at hc hu; subst hc hu
      refine .agg _ _ rfl fun i c u hc hu => ?_
      match i with
      | 0 => simp at hc hu; subst hc hu; exact .int _ _
      | 1 => simp at hc hu; subst hc hu; exact Rall
      | i + 2 => simp at hc
    | 1 => simp at hc hu; subst hc hu; exact .bool _
    | i + 2 => simp at hc
theorem put_no (n o s v : Int) (L : List (List Int)) (hl : L.length ≤ 1048576) (hL : ∀ l ∈ L, l.length ≤ 1048576 ∧ ∀ n ∈ l, I64 n) (hq : I64 o ∧ I64 s ∧ I64 v) (hh : hPutOk L o s v = false) :
    FnOk Tryd.prog tgl 35 [.agg [.int .i64 n, .list 1 (rs L)], .int .i64 o, .int .i64 s, .int .i64 v] (.tup [.agg [.int .i64 n, .list 1 (rs L)], .bool false]) := by
  refine fn_ok (Γ := H6) env_H6 Tryd.func35 low35 ?_
  have hq1 : IsH (rs L) ∧ I64 o ∧ I64 s := ⟨⟨L, rfl, hl, hL⟩, hq.1, hq.2.1⟩
  have hc : ∀ (a : hThere L o s = true) (b : 0 ≤ v), v ≤ L.length → False := fun a b c => by
    unfold hPutOk at hh
    rw [a, decide_eq_true b, decide_eq_true c] at hh; cases hh
  conv => whnf
  repeat' (first
    | (refine brK_true rfl ?_; conv => whnf)
    | (refine brK_false rfl ?_; conv => whnf)
    | (refine brK_true (by assumption) ?_; conv => whnf)
    | (refine brK_false (by assumption) ?_; conv => whnf)
    | (refine brK_true ?_ ?_; (focus (simp only [List.length_nil, fx, rs_len, rowsOf_rs] <;> omega)); conv => whnf)
    | (refine brK_false ?_ ?_; (focus (simp only [List.length_nil, fx, rs_len, rowsOf_rs] <;> omega)); conv => whnf)
    | ((refine brK_of (fun h => ?_) (fun h => ?_)) <;> (have h2 := h; (try simp only [List.length_nil, fx, rs_len, rowsOf_rs] at h2); conv => whnf))
    | (refine reqK_of ?_ ?_; (focus (first | decide | omega | assumption | (simp only [List.length_nil, fx, rs_len, rowsOf_rs] <;> omega) | (simp [keyNew, sameKey, kEq] <;> omega))); conv => whnf)
    | (refine reqK_of ?_ ?_; rotate_left; (conv => whnf); rotate_left)
    | (refine nth_us ?_ ?_ ?_; (focus (first | omega | (simp only [List.length_nil, fx, rs_len, rowsOf_rs] <;> omega))); (focus (first | omega | (simp only [List.length_nil, fx, rs_len, rowsOf_rs] <;> omega))); conv => whnf)
    | (refine nth_is ?_ ?_ ?_; (focus (first | omega | (simp only [List.length_nil, fx, rs_len, rowsOf_rs] <;> omega))); (focus (first | omega | (simp only [List.length_nil, fx, rs_len, rowsOf_rs] <;> omega))); conv => whnf)
    | (refine nth_bs ?_ ?_ ?_; (focus (first | omega | (simp only [List.length_nil, fx, rs_len, rowsOf_rs] <;> omega))); (focus (first | omega | (simp only [List.length_nil, fx, rs_len, rowsOf_rs] <;> omega))); conv => whnf))
  all_goals (refine hc ?_ ?_ ?_ <;> assumption)
theorem ok35 (n o s v : Int) (xs : List T) (hq : IsH xs ∧ I64 o ∧ I64 s ∧ I64 v) : FnOk Tryd.prog tgl 35 [.agg [.int .i64 n, .list 1 xs], .int .i64 o, .int .i64 s, .int .i64 v] (hPut n (rowsOf xs) o s v) := by
  obtain ⟨⟨L, rfl, hl, hL⟩, hq⟩ := hq
  rw [rowsOf_rs]
  unfold hPut
  cases hh : hPutOk L o s v
  · rw [if_neg (by decide)]; exact put_no n o s v L hl hL hq hh
  · rw [if_pos rfl]; exact put_yes n o s v L hl hL hq hh (put_no 0 0 0 0 [] (by decide) (fun l h => by cases h) ⟨⟨by decide, by decide⟩, ⟨by decide, by decide⟩, ⟨by decide, by decide⟩⟩ rfl).1
open Classical in
noncomputable def c35 : List T → Ans
  | [.agg [.int .i64 n, .list 1 xs], .int .i64 o, .int .i64 s, .int .i64 v] => .req (IsH xs ∧ I64 o ∧ I64 s ∧ I64 v) (hPut n (rowsOf xs) o s v)
  | _ => .no
theorem got35 {vs : List T} {x : T} (h : Got (c35 vs) x) : FnOk Tryd.prog tgl 35 vs x := by
  unfold c35 at h
  split at h
  · obtain ⟨hq, e⟩ := got_req h; rw [e]; exact ok35 _ _ _ _ _ hq
  · exact (got_no h).elim
theorem nogl35 (vs : List T) (p : Prop) (d : Decidable p) (sz : Nat) (xs : List T) (h : c35 vs = @Ans.gl p d sz xs) : False := by
  unfold c35 at h
  split at h <;> cases h
theorem pk35 (vs : List T) (p : Prop) (d : Decidable p) (x : T) (h : c35 vs = @Ans.pk p d x) (hp : p) : FnOk Tryd.prog tgl 35 vs x := by
  unfold c35 at h
  split at h
  · cases h
  · cases h
end Go.Nx
end
section
set_option linter.unusedVariables false
set_option linter.unusedSimpArgs false
set_option maxRecDepth 100000
set_option maxHeartbeats 4000000
namespace Go.Nx
open Go Go.RowKit Go.Proofs

theorem ok39 (t : ByteArray) (hq : t.size ≤ 1048576) : FnOk Tryd.prog tgl 39 [.str t] (hAns t) := by
  exact parse_run t hq
open Classical in
noncomputable def c39 : List T → Ans
  | [.str t] => .req (t.size ≤ 1048576) (hAns t)
  | _ => .no
theorem got39 {vs : List T} {x : T} (h : Got (c39 vs) x) : FnOk Tryd.prog tgl 39 vs x := by
  unfold c39 at h
  split at h
  · obtain ⟨hq, e⟩ := got_req h; rw [e]; exact ok39 _ hq
  · exact (got_no h).elim
theorem nogl39 (vs : List T) (p : Prop) (d : Decidable p) (sz : Nat) (xs : List T) (h : c39 vs = @Ans.gl p d sz xs) : False := by
  unfold c39 at h
  split at h <;> cases h
theorem pk39 (vs : List T) (p : Prop) (d : Decidable p) (x : T) (h : c39 vs = @Ans.pk p d x) (hp : p) : FnOk Tryd.prog tgl 39 vs x := by
  unfold c39 at h
  split at h
  · cases h
  · cases h
theorem alloc_nil (n most : Int) (hm : I64 most) : FnOk Tryd.prog tgl 37 [.agg [.int .i64 n, .nils], .int .i64 most] (hAl n [] most) := by
  have h := ok37 n most (rs []) ⟨⟨[], rfl, by decide, fun l h => by cases h⟩, hm⟩
  rw [rowsOf_rs] at h
  refine ⟨h.1, fun S w args hS hgl hn ha => h.2 S w args hS hgl hn fun i c u hc hu => ?_⟩
  match i with
  | 0 => simp at hc; subst hc; exact agg_nil _ _ _ (ha 0 _ u rfl hu)
  | 1 => simp at hc; subst hc; exact ha 1 _ u rfl hu
  | i + 2 => simp at hc
def inI (n : Int) : Bool := decide (-9223372036854775808 ≤ n ∧ n < 9223372036854775808)
theorem inI_ok {n : Int} (h : inI n = true) : I64 n := by
  unfold inI at h
  have := of_decide_eq_true h
  unfold I64
  omega
def isInt : T → Bool
  | .int .i64 n => inI n
  | _ => false
def isRow : T → Bool
  | .list 1 ys => ys.all isInt && Nat.ble ys.length 1000
  | _ => false
def isHB (xs : List T) : Bool := xs.all isRow && Nat.ble xs.length 1000
theorem isHB_ok {xs : List T} (h : isHB xs = true) : IsH xs := by
  unfold isHB at h
  rw [Bool.and_eq_true, List.all_eq_true] at h
  have hl := Nat.le_of_ble_eq_true h.2
  have key : ∀ x ∈ xs, ∃ l, x = .list 1 (is l) ∧ l.length ≤ 1000 ∧ ∀ n ∈ l, I64 n := fun x hx => by
    have := h.1 x hx
    unfold isRow at this
    split at this
    · rename_i ys
      rw [Bool.and_eq_true, List.all_eq_true] at this
      have k2 : ∀ y ∈ ys, ∃ n, y = .int .i64 n ∧ I64 n := fun y hy => by
        have := this.1 y hy
        unfold isInt at this
        split at this
        · rename_i n
          exact ⟨n, rfl, inI_ok this⟩
        · cases this
      have k3 : ys = is (nums ys) ∧ ∀ n ∈ nums ys, I64 n := by
        clear this hx
        induction ys with
        | nil => exact ⟨rfl, fun n h => by cases h⟩
        | cons y r ih =>
          obtain ⟨n, rfl, hn⟩ := k2 y (by simp)
          obtain ⟨e, hr⟩ := ih (fun y hy => k2 y (by simp [hy]))
          refine ⟨?_, ?_⟩
          · exact congrArg (T.int .i64 n :: ·) e
          · intro m hm
            rcases List.mem_cons.1 (show m ∈ n :: nums r from hm) with rfl | h
            · exact hn
            · exact hr _ h
      refine ⟨nums ys, by rw [← k3.1], ?_, k3.2⟩
      have := Nat.le_of_ble_eq_true this.2
      have e := congrArg List.length k3.1
      rw [is_len] at e
      omega
    · cases this
  refine ⟨rowsOf xs, ?_, ?_, ?_⟩
  · clear h hl
    induction xs with
    | nil => rfl
    | cons x r ih =>
      obtain ⟨l, rfl, _⟩ := key x (by simp)
      have := ih (fun x hx => key x (by simp [hx]))
      show _ :: r = .list 1 (is (nums (is l))) :: rs (rowsOf r)
      rw [nums_is, ← this]
  · unfold rowsOf; rw [List.length_map]; omega
  · intro l hl'
    unfold rowsOf at hl'
    obtain ⟨x, hx, rfl⟩ := List.mem_map.1 hl'
    obtain ⟨l, rfl, h1, h2⟩ := key x hx
    have e : nums (is l) = l := nums_is l
    show (nums (is l)).length ≤ _ ∧ ∀ n ∈ nums (is l), I64 n
    rw [e]
    exact ⟨by omega, h2⟩
def extH (f : Nat) (ts : List T) : Ans := match Nat.beq f 33 with
  | true => match ts with
    | [.agg [.int .i64 n, .list 1 xs], .int .i64 o, .int .i64 s] => match isHB xs && inI o && inI s with
      | true => .yes (.tup [.int .i64 (hGet (rowsOf xs) o s), .bool (hThere (rowsOf xs) o s)])
      | false => .no
    | _ => .no
  | false => match Nat.beq f 35 with
    | true => match ts with
      | [.agg [.int .i64 n, .list 1 xs], .int .i64 o, .int .i64 s, .int .i64 v] => match isHB xs && inI o && inI s && inI v with
        | true => .yes (hPut n (rowsOf xs) o s v)
        | false => .no
      | _ => .no
    | false => match Nat.beq f 37 with
      | true => match ts with
        | [.agg [.int .i64 n, .list 1 xs], .int .i64 most] => match isHB xs && inI most with
          | true => .yes (hAl n (rowsOf xs) most)
          | false => .no
        | [.agg [.int .i64 n, .nils], .int .i64 most] => match inI most with
          | true => .yes (hAl n [] most)
          | false => .no
        | _ => .no
      | false => match Nat.beq f 39 with
        | true => match ts with
          | [.str t] => match Nat.ble t.size 1000 with
            | true => .yes (hAns t)
            | false => .no
          | _ => .no
        | false => match Nat.beq f 46 with
          | true => match ts with
            | [.agg [.int .i64 n, .list 1 xs]] => match isHB xs with
              | true => .yes (.str (hTxt n (rowsOf xs)))
              | false => .no
            | [.agg [.int .i64 n, .nils]] => .yes (.str (hTxt n []))
            | _ => .no
          | false => match Nat.beq f 42 with
            | true => match ts with
              | [.agg [.int .i64 n, .list 1 xs]] => match isHB xs with
                | true => .yes (.bool (hRight n (rowsOf xs)))
                | false => .no
              | _ => .no
            | false => match Nat.beq f 44 with
              | true => match ts with
                | [.agg [.int .i64 n, .list 1 xs], .agg [.int .i64 m, .list 1 ys]] => match isHB xs && isHB ys with
                  | true => .yes (.bool (hSame n m (rowsOf xs) (rowsOf ys)))
                  | false => .no
                | _ => .no
              | false => .no
theorem extH_ok : ExtOk Tryd.prog tgl extH := by
  refine ⟨fun f vs x h0 => ?_, fun f vs p d sz xs h hp => ?_, fun f vs p d x h hp => ?_⟩
  · have h : extH f vs = .yes x := by
      rcases h0 with h | ⟨p, d, h, _⟩
      · exact h
      · exfalso
        unfold extH at h
        repeat' (split at h)
        all_goals cases h
    clear h0
    unfold extH at h
    split at h
    · rename_i hf
      obtain rfl := Nat.eq_of_beq_eq_true hf
      split at h
      · split at h
        · rename_i hd
          cases h
          simp only [Bool.and_eq_true] at hd
          exact ok33 _ _ _ _ ⟨isHB_ok hd.1.1, inI_ok hd.1.2, inI_ok hd.2⟩
        · cases h
      · cases h
    · split at h
      · rename_i hf
        obtain rfl := Nat.eq_of_beq_eq_true hf
        split at h
        · split at h
          · rename_i hd
            cases h
            simp only [Bool.and_eq_true] at hd
            exact ok35 _ _ _ _ _ ⟨isHB_ok hd.1.1.1, inI_ok hd.1.1.2, inI_ok hd.1.2, inI_ok hd.2⟩
          · cases h
        · cases h
      · split at h
        · rename_i hf
          obtain rfl := Nat.eq_of_beq_eq_true hf
          split at h
          · split at h
            · rename_i hd
              cases h
              simp only [Bool.and_eq_true] at hd
              exact ok37 _ _ _ ⟨isHB_ok hd.1, inI_ok hd.2⟩
            · cases h
          · split at h
            · rename_i hd
              cases h
              exact alloc_nil _ _ (inI_ok hd)
            · cases h
          · cases h
        · split at h
          · rename_i hf
            obtain rfl := Nat.eq_of_beq_eq_true hf
            split at h
            · split at h
              · rename_i hd
                cases h
                exact parse_run _ (Nat.le_trans (Nat.le_of_ble_eq_true hd) (by decide))
              · cases h
            · cases h
          · split at h
            · rename_i hf
              obtain rfl := Nat.eq_of_beq_eq_true hf
              split at h
              · split at h
                · rename_i hd
                  cases h
                  exact ok46 _ _ (isHB_ok hd)
                · cases h
              · cases h
                exact FnOk.args (ok46 _ [] isH_nil) rfl fun i c c' hc hc' S w u hu => by
                  match i with
                  | 0 => simp at hc hc'; subst hc hc'; exact agg_nil _ _ _ hu
                  | i + 1 => simp at hc
              · cases h
            · split at h
              · rename_i hf
                obtain rfl := Nat.eq_of_beq_eq_true hf
                split at h
                · split at h
                  · rename_i hd
                    cases h
                    exact ok42 _ _ (isHB_ok hd)
                  · cases h
                · cases h
              · split at h
                · rename_i hf
                  obtain rfl := Nat.eq_of_beq_eq_true hf
                  split at h
                  · split at h
                    · rename_i hd
                      cases h
                      rw [Bool.and_eq_true] at hd
                      exact ok44 _ _ _ _ ⟨isHB_ok hd.1, isHB_ok hd.2⟩
                    · cases h
                  · cases h
                · cases h
  · exfalso
    unfold extH at h
    repeat' (split at h)
    all_goals cases h
  · exfalso
    unfold extH at h
    repeat' (split at h)
    all_goals cases h
noncomputable def tabH : List (Nat × Nat × MFn) := [(31, 0, m31)]
theorem tabH_ok : ∀ p ∈ tabH, ∃ fn, Tryd.prog.funcs[p.1]? = some fn ∧ lowFn Tryd.prog fn = some p.2.2 := (tab_cons ⟨_, Tryd.func31, low31⟩ tab_nil)
theorem ok31 : FnOk Tryd.prog tgl 31 [] (.bool true) := ev_ok (ext := extH) (tab := tabH) (fuel := 3000) (d := 40) extH_ok tabH_ok (by kernel_rfl)
open Classical in
noncomputable def c31 : List T → Ans
  | [] => .yes (.bool true)
  | _ => .no
theorem got31 {vs : List T} {x : T} (h : Got (c31 vs) x) : FnOk Tryd.prog tgl 31 vs x := by
  unfold c31 at h
  split at h
  · rw [got_yes h]; exact ok31
  · exact (got_no h).elim
theorem nogl31 (vs : List T) (p : Prop) (d : Decidable p) (sz : Nat) (xs : List T) (h : c31 vs = @Ans.gl p d sz xs) : False := by
  unfold c31 at h
  split at h <;> cases h
theorem pk31 (vs : List T) (p : Prop) (d : Decidable p) (x : T) (h : c31 vs = @Ans.pk p d x) (hp : p) : FnOk Tryd.prog tgl 31 vs x := by
  unfold c31 at h
  split at h <;> cases h
end Go.Nx
end
section
set_option linter.unusedVariables false
set_option linter.unusedSimpArgs false
set_option maxRecDepth 20000
set_option maxHeartbeats 4000000
namespace Go.Nx
open Go Go.RowKit Go.Proofs

noncomputable def lH20 : List (Nat × (List T → Ans)) := (37, c37) :: (35, c35) :: (39, c39) :: (31, c31) :: lH17
noncomputable def iH20 : List (Nat × Pt) := iH17
noncomputable abbrev H20 : Env := En tgl lH20 iH20
theorem env_H20 : EnvOk Tryd.prog H20 := (env_fn (env_fn (env_fn (env_fn env_H17 (fun _ _ => got31) (fun vs p d sz xs h _ => (nogl31 vs p d sz xs h).elim) pk31) (fun _ _ => got39) (fun vs p d sz xs h _ => (nogl39 vs p d sz xs h).elim) pk39) (fun _ _ => got35) (fun vs p d sz xs h _ => (nogl35 vs p d sz xs h).elim) pk35) (fun _ _ => got37) (fun vs p d sz xs h _ => (nogl37 vs p d sz xs h).elim) pk37)
theorem eqB_self (a : Bool) : eqB a a = true := by unfold eqB; cases a <;> rfl
theorem hSame_iff {n m : Int} {L M : List (List Int)} : hSame n m L M = true ↔ n = m ∧ L = M := by
  unfold hSame eqLs
  rw [Bool.and_eq_true, decide_eq_true_eq, decide_eq_true_eq]
theorem hSame_self (n : Int) (L : List (List Int)) : hSame n n L L = true := hSame_iff.2 ⟨rfl, rfl⟩
theorem hSame_comm (n m : Int) (L M : List (List Int)) : hSame n m L M = hSame m n M L := by
  rw [Bool.eq_iff_iff, hSame_iff, hSame_iff]
  exact ⟨fun ⟨a, b⟩ => ⟨a.symm, b.symm⟩, fun ⟨a, b⟩ => ⟨a.symm, b.symm⟩⟩
theorem same_txt {n m : Int} {L M : List (List Int)} (h1 : hRight n L = true) (h2 : hRight m M = true) : hSame n m L M = eqS (hTxt n L) (hTxt m M) := by
  rw [Bool.eq_iff_iff, hSame_iff, eqS_iff]
  exact ⟨fun ⟨a, b⟩ => by rw [a, b], fun h => hTxt_inj h1 h2 h⟩
theorem same_law {n m : Int} {L M : List (List Int)} (h : hSame n m L M = true) : T.bool (eqB (hRight n L) (hRight m M)) = T.bool true := by
  obtain ⟨rfl, rfl⟩ := hSame_iff.1 h
  rw [eqB_self]
theorem ok13 (n m : Int) (xs ys : List T) (hq : IsH xs ∧ IsH ys) : FnOk Tryd.prog tgl 13 [.agg [.int .i64 n, .list 1 xs], .agg [.int .i64 m, .list 1 ys]] (.bool true) := by
  refine fn_ok (Γ := H20) env_H20 Tryd.func13 low13 ?_
  obtain ⟨⟨L, rfl, hl, hL⟩, M, rfl, hm, hM⟩ := hq
  have hq1 : IsH (rs L) := ⟨L, rfl, hl, hL⟩
  have hq2 : IsH (rs M) := ⟨M, rfl, hm, hM⟩
  have hq3 : IsH (rs L) ∧ IsH (rs M) := ⟨hq1, hq2⟩
  have hq4 : IsH (rs M) ∧ IsH (rs L) := ⟨hq2, hq1⟩
  conv => whnf
  repeat' (first
    | (refine brK_true rfl ?_; conv => whnf)
    | (refine brK_false rfl ?_; conv => whnf)
    | (refine brK_true (by assumption) ?_; conv => whnf)
    | (refine brK_false (by assumption) ?_; conv => whnf)
    | (refine brK_true ?_ ?_; (focus (simp only [List.length_nil, fx, rs_len, rowsOf_rs] <;> omega)); conv => whnf)
    | (refine brK_false ?_ ?_; (focus (simp only [List.length_nil, fx, rs_len, rowsOf_rs] <;> omega)); conv => whnf)
    | ((refine brK_of (fun h => ?_) (fun h => ?_)) <;> (have h2 := h; (try simp only [List.length_nil, fx, rs_len, rowsOf_rs] at h2); conv => whnf))
    | (refine reqK_of ?_ ?_; (focus (first | decide | omega | assumption | (simp only [List.length_nil, fx, rs_len, rowsOf_rs] <;> omega) | (simp [keyNew, sameKey, kEq] <;> omega))); conv => whnf)
    | (refine reqK_of ?_ ?_; rotate_left; (conv => whnf); rotate_left)
    | (refine nth_us ?_ ?_ ?_; (focus (first | omega | (simp only [List.length_nil, fx, rs_len, rowsOf_rs] <;> omega))); (focus (first | omega | (simp only [List.length_nil, fx, rs_len, rowsOf_rs] <;> omega))); conv => whnf)
    | (refine nth_is ?_ ?_ ?_; (focus (first | omega | (simp only [List.length_nil, fx, rs_len, rowsOf_rs] <;> omega))); (focus (first | omega | (simp only [List.length_nil, fx, rs_len, rowsOf_rs] <;> omega))); conv => whnf)
    | (refine nth_bs ?_ ?_ ?_; (focus (first | omega | (simp only [List.length_nil, fx, rs_len, rowsOf_rs] <;> omega))); (focus (first | omega | (simp only [List.length_nil, fx, rs_len, rowsOf_rs] <;> omega))); conv => whnf))
  all_goals (try simp only [rowsOf_rs] at *)
  all_goals first
    | exact hq3
    | exact hq4
    | exact same_law (by assumption)
    | exact absurd (by assumption) (by rw [hSame_self]; decide)
    | exact absurd (by assumption) (by rw [hSame_comm n m L M, eqB_self]; decide)
    | exact absurd (by assumption) (by rw [same_txt (by assumption) (by assumption), eqB_self]; decide)
open Classical in
noncomputable def c13 : List T → Ans
  | [.agg [.int .i64 n, .list 1 xs], .agg [.int .i64 m, .list 1 ys]] => .req (IsH xs ∧ IsH ys) (.bool true)
  | _ => .no
theorem got13 {vs : List T} {x : T} (h : Got (c13 vs) x) : FnOk Tryd.prog tgl 13 vs x := by
  unfold c13 at h
  split at h
  · obtain ⟨hq, e⟩ := got_req h; rw [e]; exact ok13 _ _ _ _ hq
  · exact (got_no h).elim
theorem nogl13 (vs : List T) (p : Prop) (d : Decidable p) (sz : Nat) (xs : List T) (h : c13 vs = @Ans.gl p d sz xs) : False := by
  unfold c13 at h
  split at h <;> cases h
theorem pk13 (vs : List T) (p : Prop) (d : Decidable p) (x : T) (h : c13 vs = @Ans.pk p d x) (hp : p) : FnOk Tryd.prog tgl 13 vs x := by
  unfold c13 at h
  split at h
  · cases h
  · cases h
theorem hTxt_size (n : Int) (L : List (List Int)) : (hTxt n L).size ≤ 1048576 := by
  cases hr : hRight n L
  · unfold hTxt; rw [hr]; exact (by decide : (1 : Nat) ≤ 1048576)
  · obtain ⟨⟨h1, h2, h3⟩, h4⟩ := hRight_iff.1 hr
    rw [← hPre_all hr]
    refine Nat.le_trans (hPre_size (n := n) (L := L) ⟨by omega, by omega⟩ (fun l hl => ?_) L.length) (by omega)
    obtain ⟨h5, h6⟩ := h4 l hl
    exact ⟨by omega, fun v hv => by have := h6 v hv; omega⟩
theorem ans_txt {n : Int} {L : List (List Int)} (h : hRight n L = true) : hAns (hTxt n L) = .tup [.agg [.int .i64 n, .list 1 (rs L)], .int .i64 0] := by
  obtain ⟨a, b, c⟩ := hP_txt h
  unfold hAns
  rw [a, b, c]; rfl
theorem ans_bad {n : Int} {L : List (List Int)} (h : hRight n L = false) : hAns (hTxt n L) = .tup [.agg [.int .i64 0, .list 1 (rs [])], .int .i64 2] := by
  have e : hTxt n L = ⟨#[63]⟩ := by unfold hTxt; rw [h]; rfl
  have e2 : hP ⟨#[63]⟩ = false := by kernel_rfl
  unfold hAns
  rw [e, e2]; rfl
theorem ans_yes {t : ByteArray} (h : hP t = true) : hAns t = .tup [.agg [.int .i64 (hNum t), .list 1 (rs (hObjs t))], .int .i64 0] := by
  unfold hAns
  rw [h]; rfl
theorem ans_no {t : ByteArray} (h : hP t = false) : hAns t = .tup [.agg [.int .i64 0, .list 1 (rs [])], .int .i64 2] := by
  unfold hAns
  rw [h]; rfl
theorem right_isH {n : Int} {L : List (List Int)} (h : hRight n L = true) : IsH (rs L) := by
  obtain ⟨⟨h1, h2, h3⟩, h4⟩ := hRight_iff.1 h
  refine ⟨L, rfl, by omega, fun l hl => ?_⟩
  obtain ⟨h5, h6⟩ := h4 l hl
  exact ⟨by omega, fun v hv => by have := h6 v hv; unfold I64; omega⟩
theorem isH_nil0 : IsH (rs []) := ⟨[], rfl, by decide, fun l h => by cases h⟩
theorem eqB_f {a b : Bool} (h : a = b) (k : eqB a b = false) : False := by subst h; rw [eqB_self] at k; cases k
theorem eqB_t {a b : Bool} (h : a ≠ b) (k : eqB a b = true) : False := by unfold eqB at k; exact h (eq_of_beq k)
theorem eqI_20 : eqI 2 0 = false := by rw [eqI_def]; rfl
theorem eqI_00 : eqI 0 0 = true := by rw [eqI_def]; rfl
theorem hs_f {n : Int} {L : List (List Int)} (k : hSame n n L L = false) : False := by rw [hSame_self] at k; cases k
theorem bool_00 : T.bool (eqI 0 0) = T.bool true := congrArg T.bool eqI_00
theorem ok12 (n : Int) (xs : List T) (t : ByteArray) (hq : IsH xs ∧ t.size ≤ 1048576) : FnOk Tryd.prog tgl 12 [.agg [.int .i64 n, .list 1 xs], .str t] (.bool true) := by
  refine fn_ok (Γ := H20) env_H20 Tryd.func12 low12 ?_
  obtain ⟨⟨L, rfl, hl, hL⟩, ht⟩ := hq
  have hq1 : IsH (rs L) := ⟨L, rfl, hl, hL⟩
  have hq2 : IsH (rs L) ∧ IsH (rs L) := ⟨hq1, hq1⟩
  have hq3 : IsH (rs []) ∧ IsH (rs L) := ⟨isH_nil0, hq1⟩
  have hz := isH_nil0
  have hs : (hTxt n (rowsOf (rs L))).size ≤ 1048576 := hTxt_size _ _
  cases hr : hRight n L <;> cases hp : hP t
  · have hr' : hRight n (rowsOf (rs L)) = false := by rw [rowsOf_rs]; exact hr
    have ha : hAns (hTxt n (rowsOf (rs L))) = .tup [.agg [.int .i64 0, .list 1 (rs [])], .int .i64 2] := by rw [rowsOf_rs]; exact ans_bad hr
    have hb := ans_no hp
    conv => whnf
    repeat' (first
      | (refine brK_true rfl ?_; conv => whnf)
      | (refine brK_false rfl ?_; conv => whnf)
      | (refine brK_true (by assumption) ?_; conv => whnf)
      | (refine brK_false (by assumption) ?_; conv => whnf)
      | (refine brK_true ?_ ?_; (focus (simp only [List.length_nil, fx, rs_len, rowsOf_rs, hr'] <;> omega)); conv => whnf)
      | (refine brK_false ?_ ?_; (focus (simp only [List.length_nil, fx, rs_len, rowsOf_rs, hr'] <;> omega)); conv => whnf)
      | ((refine brK_of (fun h => ?_) (fun h => ?_)) <;> (have h2 := h; (try simp only [List.length_nil, fx, rs_len, rowsOf_rs, hr'] at h2); conv => whnf))
      | (refine reqK_of ?_ ?_; (focus (first | decide | omega | assumption | (simp only [List.length_nil, fx, rs_len, rowsOf_rs, hr'] <;> omega) | (simp [keyNew, sameKey, kEq] <;> omega))); conv => whnf)
      | (refine reqK_of ?_ ?_; rotate_left; (conv => whnf); rotate_left)
      | (refine nth_us ?_ ?_ ?_; (focus (first | omega | (simp only [List.length_nil, fx, rs_len, rowsOf_rs, hr'] <;> omega))); (focus (first | omega | (simp only [List.length_nil, fx, rs_len, rowsOf_rs, hr'] <;> omega))); conv => whnf)
      | (refine nth_is ?_ ?_ ?_; (focus (first | omega | (simp only [List.length_nil, fx, rs_len, rowsOf_rs, hr'] <;> omega))); (focus (first | omega | (simp only [List.length_nil, fx, rs_len, rowsOf_rs, hr'] <;> omega))); conv => whnf)
      | (refine nth_bs ?_ ?_ ?_; (focus (first | omega | (simp only [List.length_nil, fx, rs_len, rowsOf_rs, hr'] <;> omega))); (focus (first | omega | (simp only [List.length_nil, fx, rs_len, rowsOf_rs, hr'] <;> omega))); conv => whnf))
    rw [ha]
    conv => whnf
    repeat' (first
      | (refine brK_true rfl ?_; conv => whnf)
      | (refine brK_false rfl ?_; conv => whnf)
      | (refine brK_true (by assumption) ?_; conv => whnf)
      | (refine brK_false (by assumption) ?_; conv => whnf)
      | (refine brK_true ?_ ?_; (focus (simp only [List.length_nil, fx, rs_len, rowsOf_rs, hr'] <;> omega)); conv => whnf)
      | (refine brK_false ?_ ?_; (focus (simp only [List.length_nil, fx, rs_len, rowsOf_rs, hr'] <;> omega)); conv => whnf)
      | ((refine brK_of (fun h => ?_) (fun h => ?_)) <;> (have h2 := h; (try simp only [List.length_nil, fx, rs_len, rowsOf_rs, hr'] at h2); conv => whnf))
      | (refine reqK_of ?_ ?_; (focus (first | decide | omega | assumption | (simp only [List.length_nil, fx, rs_len, rowsOf_rs, hr'] <;> omega) | (simp [keyNew, sameKey, kEq] <;> omega))); conv => whnf)
      | (refine reqK_of ?_ ?_; rotate_left; (conv => whnf); rotate_left)
      | (refine nth_us ?_ ?_ ?_; (focus (first | omega | (simp only [List.length_nil, fx, rs_len, rowsOf_rs, hr'] <;> omega))); (focus (first | omega | (simp only [List.length_nil, fx, rs_len, rowsOf_rs, hr'] <;> omega))); conv => whnf)
      | (refine nth_is ?_ ?_ ?_; (focus (first | omega | (simp only [List.length_nil, fx, rs_len, rowsOf_rs, hr'] <;> omega))); (focus (first | omega | (simp only [List.length_nil, fx, rs_len, rowsOf_rs, hr'] <;> omega))); conv => whnf)
      | (refine nth_bs ?_ ?_ ?_; (focus (first | omega | (simp only [List.length_nil, fx, rs_len, rowsOf_rs, hr'] <;> omega))); (focus (first | omega | (simp only [List.length_nil, fx, rs_len, rowsOf_rs, hr'] <;> omega))); conv => whnf))
    any_goals (first | rfl | exact bool_00 | (exfalso; exact hs_f (by assumption)) | assumption | (exfalso; refine eqB_f ?_ (by assumption); rw [eqI_20]; assumption) | (exfalso; refine eqB_f ?_ (by assumption); rw [eqI_00]; assumption) | skip)
    rw [hb]
    conv => whnf
    repeat' (first
      | (refine brK_true rfl ?_; conv => whnf)
      | (refine brK_false rfl ?_; conv => whnf)
      | (refine brK_true (by assumption) ?_; conv => whnf)
      | (refine brK_false (by assumption) ?_; conv => whnf)
      | (refine brK_true ?_ ?_; (focus (simp only [List.length_nil, fx, rs_len, rowsOf_rs, hr'] <;> omega)); conv => whnf)
      | (refine brK_false ?_ ?_; (focus (simp only [List.length_nil, fx, rs_len, rowsOf_rs, hr'] <;> omega)); conv => whnf)
      | ((refine brK_of (fun h => ?_) (fun h => ?_)) <;> (have h2 := h; (try simp only [List.length_nil, fx, rs_len, rowsOf_rs, hr'] at h2); conv => whnf))
      | (refine reqK_of ?_ ?_; (focus (first | decide | omega | assumption | (simp only [List.length_nil, fx, rs_len, rowsOf_rs, hr'] <;> omega) | (simp [keyNew, sameKey, kEq] <;> omega))); conv => whnf)
      | (refine reqK_of ?_ ?_; rotate_left; (conv => whnf); rotate_left)
      | (refine nth_us ?_ ?_ ?_; (focus (first | omega | (simp only [List.length_nil, fx, rs_len, rowsOf_rs, hr'] <;> omega))); (focus (first | omega | (simp only [List.length_nil, fx, rs_len, rowsOf_rs, hr'] <;> omega))); conv => whnf)
      | (refine nth_is ?_ ?_ ?_; (focus (first | omega | (simp only [List.length_nil, fx, rs_len, rowsOf_rs, hr'] <;> omega))); (focus (first | omega | (simp only [List.length_nil, fx, rs_len, rowsOf_rs, hr'] <;> omega))); conv => whnf)
      | (refine nth_bs ?_ ?_ ?_; (focus (first | omega | (simp only [List.length_nil, fx, rs_len, rowsOf_rs, hr'] <;> omega))); (focus (first | omega | (simp only [List.length_nil, fx, rs_len, rowsOf_rs, hr'] <;> omega))); conv => whnf))
    all_goals (first
      | (first | rfl | exact bool_00 | assumption | (exfalso; exact hs_f (by assumption)) | (exfalso; refine eqB_f ?_ (by assumption); rw [eqI_20]; assumption) | (exfalso; refine eqB_f ?_ (by assumption); rw [eqI_00]; assumption))
      | exact absurd hpr (by rw [show hRight (hNum t) (hObjs t) = false by assumption]; decide)
      | exact absurd hpe (by rw [show eqS (hTxt (hNum t) (hObjs t)) t = false by assumption]; decide))
  · have hr' : hRight n (rowsOf (rs L)) = false := by rw [rowsOf_rs]; exact hr
    have ha : hAns (hTxt n (rowsOf (rs L))) = .tup [.agg [.int .i64 0, .list 1 (rs [])], .int .i64 2] := by rw [rowsOf_rs]; exact ans_bad hr
    have hb := ans_yes hp
    have hi := right_isH (hP_right hp).1
    have hpr := (hP_right hp).1
    have hpe := eqS_iff.2 (hP_right hp).2
    conv => whnf
    repeat' (first
      | (refine brK_true rfl ?_; conv => whnf)
      | (refine brK_false rfl ?_; conv => whnf)
      | (refine brK_true (by assumption) ?_; conv => whnf)
      | (refine brK_false (by assumption) ?_; conv => whnf)
      | (refine brK_true ?_ ?_; (focus (simp only [List.length_nil, fx, rs_len, rowsOf_rs, hr'] <;> omega)); conv => whnf)
      | (refine brK_false ?_ ?_; (focus (simp only [List.length_nil, fx, rs_len, rowsOf_rs, hr'] <;> omega)); conv => whnf)
      | ((refine brK_of (fun h => ?_) (fun h => ?_)) <;> (have h2 := h; (try simp only [List.length_nil, fx, rs_len, rowsOf_rs, hr'] at h2); conv => whnf))
      | (refine reqK_of ?_ ?_; (focus (first | decide | omega | assumption | (simp only [List.length_nil, fx, rs_len, rowsOf_rs, hr'] <;> omega) | (simp [keyNew, sameKey, kEq] <;> omega))); conv => whnf)
      | (refine reqK_of ?_ ?_; rotate_left; (conv => whnf); rotate_left)
      | (refine nth_us ?_ ?_ ?_; (focus (first | omega | (simp only [List.length_nil, fx, rs_len, rowsOf_rs, hr'] <;> omega))); (focus (first | omega | (simp only [List.length_nil, fx, rs_len, rowsOf_rs, hr'] <;> omega))); conv => whnf)
      | (refine nth_is ?_ ?_ ?_; (focus (first | omega | (simp only [List.length_nil, fx, rs_len, rowsOf_rs, hr'] <;> omega))); (focus (first | omega | (simp only [List.length_nil, fx, rs_len, rowsOf_rs, hr'] <;> omega))); conv => whnf)
      | (refine nth_bs ?_ ?_ ?_; (focus (first | omega | (simp only [List.length_nil, fx, rs_len, rowsOf_rs, hr'] <;> omega))); (focus (first | omega | (simp only [List.length_nil, fx, rs_len, rowsOf_rs, hr'] <;> omega))); conv => whnf))
    rw [ha]
    conv => whnf
    repeat' (first
      | (refine brK_true rfl ?_; conv => whnf)
      | (refine brK_false rfl ?_; conv => whnf)
      | (refine brK_true (by assumption) ?_; conv => whnf)
      | (refine brK_false (by assumption) ?_; conv => whnf)
      | (refine brK_true ?_ ?_; (focus (simp only [List.length_nil, fx, rs_len, rowsOf_rs, hr'] <;> omega)); conv => whnf)
      | (refine brK_false ?_ ?_; (focus (simp only [List.length_nil, fx, rs_len, rowsOf_rs, hr'] <;> omega)); conv => whnf)
      | ((refine brK_of (fun h => ?_) (fun h => ?_)) <;> (have h2 := h; (try simp only [List.length_nil, fx, rs_len, rowsOf_rs, hr'] at h2); conv => whnf))
      | (refine reqK_of ?_ ?_; (focus (first | decide | omega | assumption | (simp only [List.length_nil, fx, rs_len, rowsOf_rs, hr'] <;> omega) | (simp [keyNew, sameKey, kEq] <;> omega))); conv => whnf)
      | (refine reqK_of ?_ ?_; rotate_left; (conv => whnf); rotate_left)
      | (refine nth_us ?_ ?_ ?_; (focus (first | omega | (simp only [List.length_nil, fx, rs_len, rowsOf_rs, hr'] <;> omega))); (focus (first | omega | (simp only [List.length_nil, fx, rs_len, rowsOf_rs, hr'] <;> omega))); conv => whnf)
      | (refine nth_is ?_ ?_ ?_; (focus (first | omega | (simp only [List.length_nil, fx, rs_len, rowsOf_rs, hr'] <;> omega))); (focus (first | omega | (simp only [List.length_nil, fx, rs_len, rowsOf_rs, hr'] <;> omega))); conv => whnf)
      | (refine nth_bs ?_ ?_ ?_; (focus (first | omega | (simp only [List.length_nil, fx, rs_len, rowsOf_rs, hr'] <;> omega))); (focus (first | omega | (simp only [List.length_nil, fx, rs_len, rowsOf_rs, hr'] <;> omega))); conv => whnf))
    any_goals (first | rfl | exact bool_00 | (exfalso; exact hs_f (by assumption)) | assumption | (exfalso; refine eqB_f ?_ (by assumption); rw [eqI_20]; assumption) | (exfalso; refine eqB_f ?_ (by assumption); rw [eqI_00]; assumption) | skip)
    rw [hb]
    conv => whnf
    repeat' (first
      | (refine brK_true rfl ?_; conv => whnf)
      | (refine brK_false rfl ?_; conv => whnf)
      | (refine brK_true (by assumption) ?_; conv => whnf)
      | (refine brK_false (by assumption) ?_; conv => whnf)
      | (refine brK_true ?_ ?_; (focus (simp only [List.length_nil, fx, rs_len, rowsOf_rs, hr'] <;> omega)); conv => whnf)
      | (refine brK_false ?_ ?_; (focus (simp only [List.length_nil, fx, rs_len, rowsOf_rs, hr'] <;> omega)); conv => whnf)
      | ((refine brK_of (fun h => ?_) (fun h => ?_)) <;> (have h2 := h; (try simp only [List.length_nil, fx, rs_len, rowsOf_rs, hr'] at h2); conv => whnf))
      | (refine reqK_of ?_ ?_; (focus (first | decide | omega | assumption | (simp only [List.length_nil, fx, rs_len, rowsOf_rs, hr'] <;> omega) | (simp [keyNew, sameKey, kEq] <;> omega))); conv => whnf)
      | (refine reqK_of ?_ ?_; rotate_left; (conv => whnf); rotate_left)
      | (refine nth_us ?_ ?_ ?_; (focus (first | omega | (simp only [List.length_nil, fx, rs_len, rowsOf_rs, hr'] <;> omega))); (focus (first | omega | (simp only [List.length_nil, fx, rs_len, rowsOf_rs, hr'] <;> omega))); conv => whnf)
      | (refine nth_is ?_ ?_ ?_; (focus (first | omega | (simp only [List.length_nil, fx, rs_len, rowsOf_rs, hr'] <;> omega))); (focus (first | omega | (simp only [List.length_nil, fx, rs_len, rowsOf_rs, hr'] <;> omega))); conv => whnf)
      | (refine nth_bs ?_ ?_ ?_; (focus (first | omega | (simp only [List.length_nil, fx, rs_len, rowsOf_rs, hr'] <;> omega))); (focus (first | omega | (simp only [List.length_nil, fx, rs_len, rowsOf_rs, hr'] <;> omega))); conv => whnf))
    all_goals (first
      | (first | rfl | exact bool_00 | assumption | (exfalso; exact hs_f (by assumption)) | (exfalso; refine eqB_f ?_ (by assumption); rw [eqI_20]; assumption) | (exfalso; refine eqB_f ?_ (by assumption); rw [eqI_00]; assumption))
      | exact absurd hpr (by rw [show hRight (hNum t) (hObjs t) = false by assumption]; decide)
      | exact absurd hpe (by rw [show eqS (hTxt (hNum t) (hObjs t)) t = false by assumption]; decide))
  · have hr' : hRight n (rowsOf (rs L)) = true := by rw [rowsOf_rs]; exact hr
    have ha : hAns (hTxt n (rowsOf (rs L))) = .tup [.agg [.int .i64 n, .list 1 (rs L)], .int .i64 0] := by rw [rowsOf_rs]; exact ans_txt hr
    have hb := ans_no hp
    conv => whnf
    repeat' (first
      | (refine brK_true rfl ?_; conv => whnf)
      | (refine brK_false rfl ?_; conv => whnf)
      | (refine brK_true (by assumption) ?_; conv => whnf)
      | (refine brK_false (by assumption) ?_; conv => whnf)
      | (refine brK_true ?_ ?_; (focus (simp only [List.length_nil, fx, rs_len, rowsOf_rs, hr'] <;> omega)); conv => whnf)
      | (refine brK_false ?_ ?_; (focus (simp only [List.length_nil, fx, rs_len, rowsOf_rs, hr'] <;> omega)); conv => whnf)
      | ((refine brK_of (fun h => ?_) (fun h => ?_)) <;> (have h2 := h; (try simp only [List.length_nil, fx, rs_len, rowsOf_rs, hr'] at h2); conv => whnf))
      | (refine reqK_of ?_ ?_; (focus (first | decide | omega | assumption | (simp only [List.length_nil, fx, rs_len, rowsOf_rs, hr'] <;> omega) | (simp [keyNew, sameKey, kEq] <;> omega))); conv => whnf)
      | (refine reqK_of ?_ ?_; rotate_left; (conv => whnf); rotate_left)
      | (refine nth_us ?_ ?_ ?_; (focus (first | omega | (simp only [List.length_nil, fx, rs_len, rowsOf_rs, hr'] <;> omega))); (focus (first | omega | (simp only [List.length_nil, fx, rs_len, rowsOf_rs, hr'] <;> omega))); conv => whnf)
      | (refine nth_is ?_ ?_ ?_; (focus (first | omega | (simp only [List.length_nil, fx, rs_len, rowsOf_rs, hr'] <;> omega))); (focus (first | omega | (simp only [List.length_nil, fx, rs_len, rowsOf_rs, hr'] <;> omega))); conv => whnf)
      | (refine nth_bs ?_ ?_ ?_; (focus (first | omega | (simp only [List.length_nil, fx, rs_len, rowsOf_rs, hr'] <;> omega))); (focus (first | omega | (simp only [List.length_nil, fx, rs_len, rowsOf_rs, hr'] <;> omega))); conv => whnf))
    rw [ha]
    conv => whnf
    repeat' (first
      | (refine brK_true rfl ?_; conv => whnf)
      | (refine brK_false rfl ?_; conv => whnf)
      | (refine brK_true (by assumption) ?_; conv => whnf)
      | (refine brK_false (by assumption) ?_; conv => whnf)
      | (refine brK_true ?_ ?_; (focus (simp only [List.length_nil, fx, rs_len, rowsOf_rs, hr'] <;> omega)); conv => whnf)
      | (refine brK_false ?_ ?_; (focus (simp only [List.length_nil, fx, rs_len, rowsOf_rs, hr'] <;> omega)); conv => whnf)
      | ((refine brK_of (fun h => ?_) (fun h => ?_)) <;> (have h2 := h; (try simp only [List.length_nil, fx, rs_len, rowsOf_rs, hr'] at h2); conv => whnf))
      | (refine reqK_of ?_ ?_; (focus (first | decide | omega | assumption | (simp only [List.length_nil, fx, rs_len, rowsOf_rs, hr'] <;> omega) | (simp [keyNew, sameKey, kEq] <;> omega))); conv => whnf)
      | (refine reqK_of ?_ ?_; rotate_left; (conv => whnf); rotate_left)
      | (refine nth_us ?_ ?_ ?_; (focus (first | omega | (simp only [List.length_nil, fx, rs_len, rowsOf_rs, hr'] <;> omega))); (focus (first | omega | (simp only [List.length_nil, fx, rs_len, rowsOf_rs, hr'] <;> omega))); conv => whnf)
      | (refine nth_is ?_ ?_ ?_; (focus (first | omega | (simp only [List.length_nil, fx, rs_len, rowsOf_rs, hr'] <;> omega))); (focus (first | omega | (simp only [List.length_nil, fx, rs_len, rowsOf_rs, hr'] <;> omega))); conv => whnf)
      | (refine nth_bs ?_ ?_ ?_; (focus (first | omega | (simp only [List.length_nil, fx, rs_len, rowsOf_rs, hr'] <;> omega))); (focus (first | omega | (simp only [List.length_nil, fx, rs_len, rowsOf_rs, hr'] <;> omega))); conv => whnf))
    any_goals (first | rfl | exact bool_00 | (exfalso; exact hs_f (by assumption)) | assumption | (exfalso; refine eqB_f ?_ (by assumption); rw [eqI_20]; assumption) | (exfalso; refine eqB_f ?_ (by assumption); rw [eqI_00]; assumption) | skip)
    rw [hb]
    conv => whnf
    repeat' (first
      | (refine brK_true rfl ?_; conv => whnf)
      | (refine brK_false rfl ?_; conv => whnf)
      | (refine brK_true (by assumption) ?_; conv => whnf)
      | (refine brK_false (by assumption) ?_; conv => whnf)
      | (refine brK_true ?_ ?_; (focus (simp only [List.length_nil, fx, rs_len, rowsOf_rs, hr'] <;> omega)); conv => whnf)
      | (refine brK_false ?_ ?_; (focus (simp only [List.length_nil, fx, rs_len, rowsOf_rs, hr'] <;> omega)); conv => whnf)
      | ((refine brK_of (fun h => ?_) (fun h => ?_)) <;> (have h2 := h; (try simp only [List.length_nil, fx, rs_len, rowsOf_rs, hr'] at h2); conv => whnf))
      | (refine reqK_of ?_ ?_; (focus (first | decide | omega | assumption | (simp only [List.length_nil, fx, rs_len, rowsOf_rs, hr'] <;> omega) | (simp [keyNew, sameKey, kEq] <;> omega))); conv => whnf)
      | (refine reqK_of ?_ ?_; rotate_left; (conv => whnf); rotate_left)
      | (refine nth_us ?_ ?_ ?_; (focus (first | omega | (simp only [List.length_nil, fx, rs_len, rowsOf_rs, hr'] <;> omega))); (focus (first | omega | (simp only [List.length_nil, fx, rs_len, rowsOf_rs, hr'] <;> omega))); conv => whnf)
      | (refine nth_is ?_ ?_ ?_; (focus (first | omega | (simp only [List.length_nil, fx, rs_len, rowsOf_rs, hr'] <;> omega))); (focus (first | omega | (simp only [List.length_nil, fx, rs_len, rowsOf_rs, hr'] <;> omega))); conv => whnf)
      | (refine nth_bs ?_ ?_ ?_; (focus (first | omega | (simp only [List.length_nil, fx, rs_len, rowsOf_rs, hr'] <;> omega))); (focus (first | omega | (simp only [List.length_nil, fx, rs_len, rowsOf_rs, hr'] <;> omega))); conv => whnf))
    all_goals (first
      | (first | rfl | exact bool_00 | assumption | (exfalso; exact hs_f (by assumption)) | (exfalso; refine eqB_f ?_ (by assumption); rw [eqI_20]; assumption) | (exfalso; refine eqB_f ?_ (by assumption); rw [eqI_00]; assumption))
      | exact absurd hpr (by rw [show hRight (hNum t) (hObjs t) = false by assumption]; decide)
      | exact absurd hpe (by rw [show eqS (hTxt (hNum t) (hObjs t)) t = false by assumption]; decide))
  · have hr' : hRight n (rowsOf (rs L)) = true := by rw [rowsOf_rs]; exact hr
    have ha : hAns (hTxt n (rowsOf (rs L))) = .tup [.agg [.int .i64 n, .list 1 (rs L)], .int .i64 0] := by rw [rowsOf_rs]; exact ans_txt hr
    have hb := ans_yes hp
    have hi := right_isH (hP_right hp).1
    have hpr := (hP_right hp).1
    have hpe := eqS_iff.2 (hP_right hp).2
    conv => whnf
    repeat' (first
      | (refine brK_true rfl ?_; conv => whnf)
      | (refine brK_false rfl ?_; conv => whnf)
      | (refine brK_true (by assumption) ?_; conv => whnf)
      | (refine brK_false (by assumption) ?_; conv => whnf)
      | (refine brK_true ?_ ?_; (focus (simp only [List.length_nil, fx, rs_len, rowsOf_rs, hr'] <;> omega)); conv => whnf)
      | (refine brK_false ?_ ?_; (focus (simp only [List.length_nil, fx, rs_len, rowsOf_rs, hr'] <;> omega)); conv => whnf)
      | ((refine brK_of (fun h => ?_) (fun h => ?_)) <;> (have h2 := h; (try simp only [List.length_nil, fx, rs_len, rowsOf_rs, hr'] at h2); conv => whnf))
      | (refine reqK_of ?_ ?_; (focus (first | decide | omega | assumption | (simp only [List.length_nil, fx, rs_len, rowsOf_rs, hr'] <;> omega) | (simp [keyNew, sameKey, kEq] <;> omega))); conv => whnf)
      | (refine reqK_of ?_ ?_; rotate_left; (conv => whnf); rotate_left)
      | (refine nth_us ?_ ?_ ?_; (focus (first | omega | (simp only [List.length_nil, fx, rs_len, rowsOf_rs, hr'] <;> omega))); (focus (first | omega | (simp only [List.length_nil, fx, rs_len, rowsOf_rs, hr'] <;> omega))); conv => whnf)
      | (refine nth_is ?_ ?_ ?_; (focus (first | omega | (simp only [List.length_nil, fx, rs_len, rowsOf_rs, hr'] <;> omega))); (focus (first | omega | (simp only [List.length_nil, fx, rs_len, rowsOf_rs, hr'] <;> omega))); conv => whnf)
      | (refine nth_bs ?_ ?_ ?_; (focus (first | omega | (simp only [List.length_nil, fx, rs_len, rowsOf_rs, hr'] <;> omega))); (focus (first | omega | (simp only [List.length_nil, fx, rs_len, rowsOf_rs, hr'] <;> omega))); conv => whnf))
    rw [ha]
    conv => whnf
    repeat' (first
      | (refine brK_true rfl ?_; conv => whnf)
      | (refine brK_false rfl ?_; conv => whnf)
      | (refine brK_true (by assumption) ?_; conv => whnf)
      | (refine brK_false (by assumption) ?_; conv => whnf)
      | (refine brK_true ?_ ?_; (focus (simp only [List.length_nil, fx, rs_len, rowsOf_rs, hr'] <;> omega)); conv => whnf)
      | (refine brK_false ?_ ?_; (focus (simp only [List.length_nil, fx, rs_len, rowsOf_rs, hr'] <;> omega)); conv => whnf)
      | ((refine brK_of (fun h => ?_) (fun h => ?_)) <;> (have h2 := h; (try simp only [List.length_nil, fx, rs_len, rowsOf_rs, hr'] at h2); conv => whnf))
      | (refine reqK_of ?_ ?_; (focus (first | decide | omega | assumption | (simp only [List.length_nil, fx, rs_len, rowsOf_rs, hr'] <;> omega) | (simp [keyNew, sameKey, kEq] <;> omega))); conv => whnf)
      | (refine reqK_of ?_ ?_; rotate_left; (conv => whnf); rotate_left)
      | (refine nth_us ?_ ?_ ?_; (focus (first | omega | (simp only [List.length_nil, fx, rs_len, rowsOf_rs, hr'] <;> omega))); (focus (first | omega | (simp only [List.length_nil, fx, rs_len, rowsOf_rs, hr'] <;> omega))); conv => whnf)
      | (refine nth_is ?_ ?_ ?_; (focus (first | omega | (simp only [List.length_nil, fx, rs_len, rowsOf_rs, hr'] <;> omega))); (focus (first | omega | (simp only [List.length_nil, fx, rs_len, rowsOf_rs, hr'] <;> omega))); conv => whnf)
      | (refine nth_bs ?_ ?_ ?_; (focus (first | omega | (simp only [List.length_nil, fx, rs_len, rowsOf_rs, hr'] <;> omega))); (focus (first | omega | (simp only [List.length_nil, fx, rs_len, rowsOf_rs, hr'] <;> omega))); conv => whnf))
    any_goals (first | rfl | exact bool_00 | (exfalso; exact hs_f (by assumption)) | assumption | (exfalso; refine eqB_f ?_ (by assumption); rw [eqI_20]; assumption) | (exfalso; refine eqB_f ?_ (by assumption); rw [eqI_00]; assumption) | skip)
    rw [hb]
    conv => whnf
    repeat' (first
      | (refine brK_true rfl ?_; conv => whnf)
      | (refine brK_false rfl ?_; conv => whnf)
      | (refine brK_true (by assumption) ?_; conv => whnf)
      | (refine brK_false (by assumption) ?_; conv => whnf)
      | (refine brK_true ?_ ?_; (focus (simp only [List.length_nil, fx, rs_len, rowsOf_rs, hr'] <;> omega)); conv => whnf)
      | (refine brK_false ?_ ?_; (focus (simp only [List.length_nil, fx, rs_len, rowsOf_rs, hr'] <;> omega)); conv => whnf)
      | ((refine brK_of (fun h => ?_) (fun h => ?_)) <;> (have h2 := h; (try simp only [List.length_nil, fx, rs_len, rowsOf_rs, hr'] at h2); conv => whnf))
      | (refine reqK_of ?_ ?_; (focus (first | decide | omega | assumption | (simp only [List.length_nil, fx, rs_len, rowsOf_rs, hr'] <;> omega) | (simp [keyNew, sameKey, kEq] <;> omega))); conv => whnf)
      | (refine reqK_of ?_ ?_; rotate_left; (conv => whnf); rotate_left)
      | (refine nth_us ?_ ?_ ?_; (focus (first | omega | (simp only [List.length_nil, fx, rs_len, rowsOf_rs, hr'] <;> omega))); (focus (first | omega | (simp only [List.length_nil, fx, rs_len, rowsOf_rs, hr'] <;> omega))); conv => whnf)
      | (refine nth_is ?_ ?_ ?_; (focus (first | omega | (simp only [List.length_nil, fx, rs_len, rowsOf_rs, hr'] <;> omega))); (focus (first | omega | (simp only [List.length_nil, fx, rs_len, rowsOf_rs, hr'] <;> omega))); conv => whnf)
      | (refine nth_bs ?_ ?_ ?_; (focus (first | omega | (simp only [List.length_nil, fx, rs_len, rowsOf_rs, hr'] <;> omega))); (focus (first | omega | (simp only [List.length_nil, fx, rs_len, rowsOf_rs, hr'] <;> omega))); conv => whnf))
    all_goals (first
      | (first | rfl | exact bool_00 | assumption | (exfalso; exact hs_f (by assumption)) | (exfalso; refine eqB_f ?_ (by assumption); rw [eqI_20]; assumption) | (exfalso; refine eqB_f ?_ (by assumption); rw [eqI_00]; assumption))
      | exact absurd hpr (by rw [show hRight (hNum t) (hObjs t) = false by assumption]; decide)
      | exact absurd hpe (by rw [show eqS (hTxt (hNum t) (hObjs t)) t = false by assumption]; decide))
open Classical in
noncomputable def c12 : List T → Ans
  | [.agg [.int .i64 n, .list 1 xs], .str t] => .req (IsH xs ∧ t.size ≤ 1048576) (.bool true)
  | _ => .no
theorem got12 {vs : List T} {x : T} (h : Got (c12 vs) x) : FnOk Tryd.prog tgl 12 vs x := by
  unfold c12 at h
  split at h
  · obtain ⟨hq, e⟩ := got_req h; rw [e]; exact ok12 _ _ _ hq
  · exact (got_no h).elim
theorem nogl12 (vs : List T) (p : Prop) (d : Decidable p) (sz : Nat) (xs : List T) (h : c12 vs = @Ans.gl p d sz xs) : False := by
  unfold c12 at h
  split at h <;> cases h
theorem pk12 (vs : List T) (p : Prop) (d : Decidable p) (x : T) (h : c12 vs = @Ans.pk p d x) (hp : p) : FnOk Tryd.prog tgl 12 vs x := by
  unfold c12 at h
  split at h
  · cases h
  · cases h
end Go.Nx
end
section
set_option linter.unusedVariables false
set_option linter.unusedSimpArgs false
set_option maxRecDepth 20000
set_option maxHeartbeats 4000000
namespace Go.Nx
open Go Go.RowKit Go.Proofs

theorem hPut_yes {n : Int} {L : List (List Int)} {o s v : Int} (h : hPutOk L o s v = true) : hPut n L o s v = .tup [.agg [.int .i64 n, .list 1 (rs (hSet L o s v))], .bool true] := if_pos h
theorem hPut_no {n : Int} {L : List (List Int)} {o s v : Int} (h : hPutOk L o s v = false) : hPut n L o s v = .tup [.agg [.int .i64 n, .list 1 (rs L)], .bool false] := if_neg (by rw [h]; decide)
def U8 (a : Int) : Prop := 0 ≤ a ∧ a < 256
theorem hSet_len (L : List (List Int)) (o s v : Int) : (hSet L o s v).length = L.length := by unfold hSet; rw [List.length_set]
theorem row_hSet {L : List (List Int)} {o s v o' : Int} (h1 : 1 ≤ o) (h2 : o ≤ L.length) (h3 : 1 ≤ o') : row (hSet L o s v) o' = if o' = o then (row L o).set s.toNat v else row L o' := by
  unfold hSet
  split
  · subst o'
    show ((L.set (o - 1).toNat ((row L o).set s.toNat v))[(o - 1).toNat]?).getD [] = _
    rw [List.getElem?_set_self (by omega)]; rfl
  · show ((L.set (o - 1).toNat ((row L o).set s.toNat v))[(o' - 1).toNat]?).getD [] = _
    rw [List.getElem?_set_ne (by omega)]; rfl
theorem there_hSet {L : List (List Int)} {o s v o' s' : Int} (h1 : 1 ≤ o) (h2 : o ≤ L.length) : hThere (hSet L o s v) o' s' = hThere L o' s' := by
  rw [Bool.eq_iff_iff, hThere_iff, hThere_iff, hSet_len]
  by_cases h : 1 ≤ o'
  · have e : (row (hSet L o s v) o').length = (row L o').length := by
      rw [row_hSet h1 h2 h]
      split
      · subst o'; rw [List.length_set]
      · rfl
    rw [e]
  · exact ⟨fun h' => absurd h'.1 h, fun h' => absurd h'.1 h⟩
theorem get_same {L : List (List Int)} {o s v : Int} (h : hThere L o s = true) : hGet (hSet L o s v) o s = v := by
  obtain ⟨h1, h2, h3, h4⟩ := hThere_iff.1 h
  unfold hGet
  rw [there_hSet h1 h2, if_pos h, row_hSet h1 h2 h1, if_pos rfl]
  unfold at0
  simp [List.getElem?_set_self (show s.toNat < (row L o).length by omega)]
theorem get_else {L : List (List Int)} {o s v o' s' : Int} (h : hThere L o s = true) (hn : ¬ (o = o' ∧ s = s')) : hGet (hSet L o s v) o' s' = hGet L o' s' := by
  obtain ⟨h1, h2, h3, h4⟩ := hThere_iff.1 h
  unfold hGet
  rw [there_hSet h1 h2]
  split
  · rename_i ht
    obtain ⟨k1, k2, k3, k4⟩ := hThere_iff.1 ht
    rw [row_hSet h1 h2 k1]
    split
    · rename_i e
      subst o'
      unfold at0
      simp [List.getElem?_set_ne (show s.toNat ≠ s'.toNat from fun e => hn ⟨rfl, by omega⟩)]
    · rfl
  · rfl
theorem set_isH {L : List (List Int)} {o s v : Int} (hl : L.length ≤ 1048576) (hL : ∀ l ∈ L, l.length ≤ 1048576 ∧ ∀ n ∈ l, I64 n) (h : hThere L o s = true) (hv : I64 v) : IsH (rs (hSet L o s v)) := by
  obtain ⟨h1, h2, h3, h4⟩ := hThere_iff.1 h
  refine ⟨_, rfl, by rw [hSet_len]; exact hl, fun l hl' => ?_⟩
  rcases List.mem_or_eq_of_mem_set hl' with k | rfl
  · exact hL l k
  · obtain ⟨k1, k2⟩ := hL _ (row_mem h1 h2)
    refine ⟨by rw [List.length_set]; exact k1, fun n hn => ?_⟩
    rcases List.mem_or_eq_of_mem_set hn with k | rfl
    · exact k2 n k
    · exact hv
theorem wr64 (n : Int) : I64 (IntKind.i64.wrap n) := by
  unfold I64 IntKind.wrap
  simp [IntKind.bits, IntKind.signed]
  split <;> omega
theorem putOk_parts {L : List (List Int)} {o s v : Int} (h : hPutOk L o s v = true) : hThere L o s = true ∧ 0 ≤ v ∧ v ≤ L.length := by
  unfold hPutOk at h
  simpa only [Bool.and_eq_true, decide_eq_true_eq] using h
theorem right_set {n : Int} {L : List (List Int)} {o s v : Int} (hr : hRight n L = true) (hp : hPutOk L o s v = true) : hRight n (hSet L o s v) = true := by
  obtain ⟨ht, h0, h1⟩ := putOk_parts hp
  obtain ⟨t1, t2, t3, t4⟩ := hThere_iff.1 ht
  obtain ⟨hh, hall⟩ := hRight_iff.1 hr
  refine hRight_iff.2 ⟨by rw [hSet_len]; exact hh, fun l hl => ?_⟩
  rw [hSet_len]
  rcases List.mem_or_eq_of_mem_set hl with k | rfl
  · exact hall l k
  · obtain ⟨k1, k2⟩ := hall _ (row_mem t1 t2)
    refine ⟨by rw [List.length_set]; exact k1, fun x hx => ?_⟩
    rcases List.mem_or_eq_of_mem_set hx with k | rfl
    · exact k2 x k
    · exact ⟨h0, h1⟩
theorem put_eq (n : Int) {L : List (List Int)} {o s v : Int} (ht : hThere L o s = true) : eqI (hGet L o s) (hGet (hSet L o s v) o s) = hSame n n L (hSet L o s v) := by
  obtain ⟨t1, t2, t3, t4⟩ := hThere_iff.1 ht
  rw [eqI_def, Bool.eq_iff_iff, hSame_iff, beq_iff_eq, get_same ht]
  constructor
  · intro e
    refine ⟨rfl, ?_⟩
    have hoL : (o - 1).toNat < L.length := by omega
    have e1 : row L o = L[(o - 1).toNat] := by unfold row; rw [List.getElem?_eq_getElem hoL]; rfl
    have e2 : (row L o).set s.toNat v = row L o := by
      rw [← e]
      unfold hGet
      rw [if_pos ht]
      unfold at0
      have hsl : s.toNat < (row L o).length := by omega
      simp [hsl]
    unfold hSet
    rw [e2, e1, List.set_getElem_self]
  · intro e
    have := get_same (v := v) ht
    rw [← e.2] at this
    exact this
theorem eqS_ff {t : ByteArray} (h : eqS t t = false) : False := by rw [eqS_iff.2 rfl] at h; cases h
noncomputable def lH21 : List (Nat × (List T → Ans)) := (33, c33) :: lH20
noncomputable def iH21 : List (Nat × Pt) := iH20
noncomputable abbrev H21 : Env := En tgl lH21 iH21
theorem env_H21 : EnvOk Tryd.prog H21 := (env_fn env_H20 (fun _ _ => got33) (fun vs p d sz xs h _ => (nogl33 vs p d sz xs h).elim) pk33)
theorem ok10 (n a b c d e : Int) (xs : List T) (hq : IsH xs ∧ U8 a ∧ U8 b ∧ U8 c ∧ U8 d ∧ U8 e) : FnOk Tryd.prog tgl 10 [.agg [.int .i64 n, .list 1 xs], .int .u8 a, .int .u8 b, .int .u8 c, .int .u8 d, .int .u8 e] (.bool true) := by
  refine fn_ok (Γ := H21) env_H21 Tryd.func10 low10 ?_
  obtain ⟨⟨L, rfl, hl, hL⟩, ha, hb, hc, hd, he⟩ := hq
  have hq1 : IsH (rs L) := ⟨L, rfl, hl, hL⟩
  unfold U8 at ha hb hc hd he
  generalize ea : IntKind.i64.wrap (a.tmod 8) = o
  have io : I64 o := by rw [← ea]; exact wr64 _
  have ib : I64 (IntKind.i64.wrap (b.tmod 5)) := wr64 _
  have ic : I64 (IntKind.i64.wrap (c.tmod 8)) := wr64 _
  have id : I64 (IntKind.i64.wrap (d.tmod 8)) := wr64 _
  have ie : I64 (IntKind.i64.wrap (e.tmod 5)) := wr64 _
  subst ea
  have hA : IsH (rs L) ∧ I64 (IntKind.i64.wrap (a.tmod 8)) ∧ I64 (IntKind.i64.wrap (b.tmod 5)) := ⟨hq1, io, ib⟩
  have hB : IsH (rs L) ∧ I64 (IntKind.i64.wrap (d.tmod 8)) ∧ I64 (IntKind.i64.wrap (e.tmod 5)) := ⟨hq1, id, ie⟩
  have hC : IsH (rs L) ∧ I64 (IntKind.i64.wrap (a.tmod 8)) ∧ I64 (IntKind.i64.wrap (b.tmod 5)) ∧ I64 (IntKind.i64.wrap (c.tmod 8)) := ⟨hq1, io, ib, ic⟩
  have hD : IsH (rs L) ∧ IsH (rs L) := ⟨hq1, hq1⟩
  have c0 : 0 ≤ IntKind.i64.wrap (c.tmod 8) := by
    have : 0 ≤ c.tmod 8 ∧ c.tmod 8 < 8 := ⟨Int.tmod_nonneg _ hc.1, Int.tmod_lt_of_pos _ (by decide)⟩
    rw [wrap_i64 ⟨by omega, by omega⟩]; exact this.1
  cases hp : hPutOk L (IntKind.i64.wrap (a.tmod 8)) (IntKind.i64.wrap (b.tmod 5)) (IntKind.i64.wrap (c.tmod 8))
  · have hP := hPut_no (n := n) hp
    conv => whnf
    repeat' (first
      | (refine brK_true rfl ?_; conv => whnf)
      | (refine brK_false rfl ?_; conv => whnf)
      | (refine brK_true (by assumption) ?_; conv => whnf)
      | (refine brK_false (by assumption) ?_; conv => whnf)
      | (refine brK_true ?_ ?_; (focus (simp only [List.length_nil, fx, rs_len, rowsOf_rs] <;> omega)); conv => whnf)
      | (refine brK_false ?_ ?_; (focus (simp only [List.length_nil, fx, rs_len, rowsOf_rs] <;> omega)); conv => whnf)
      | ((refine brK_of (fun h => ?_) (fun h => ?_)) <;> (have h2 := h; (try simp only [List.length_nil, fx, rs_len, rowsOf_rs] at h2); conv => whnf))
      | (refine reqK_of ?_ ?_; (focus (first | decide | omega | assumption | (simp only [List.length_nil, fx, rs_len, rowsOf_rs] <;> omega) | (simp [keyNew, sameKey, kEq] <;> omega))); conv => whnf)
      | (refine reqK_of ?_ ?_; rotate_left; (conv => whnf); rotate_left)
      | (refine nth_us ?_ ?_ ?_; (focus (first | omega | (simp only [List.length_nil, fx, rs_len, rowsOf_rs] <;> omega))); (focus (first | omega | (simp only [List.length_nil, fx, rs_len, rowsOf_rs] <;> omega))); conv => whnf)
      | (refine nth_is ?_ ?_ ?_; (focus (first | omega | (simp only [List.length_nil, fx, rs_len, rowsOf_rs] <;> omega))); (focus (first | omega | (simp only [List.length_nil, fx, rs_len, rowsOf_rs] <;> omega))); conv => whnf)
      | (refine nth_bs ?_ ?_ ?_; (focus (first | omega | (simp only [List.length_nil, fx, rs_len, rowsOf_rs] <;> omega))); (focus (first | omega | (simp only [List.length_nil, fx, rs_len, rowsOf_rs] <;> omega))); conv => whnf))
    rw [rowsOf_rs, hP]
    conv => whnf
    repeat' (first
      | (refine brK_true rfl ?_; conv => whnf)
      | (refine brK_false rfl ?_; conv => whnf)
      | (refine brK_true (by assumption) ?_; conv => whnf)
      | (refine brK_false (by assumption) ?_; conv => whnf)
      | (refine brK_true ?_ ?_; (focus (simp only [List.length_nil, fx, rs_len, rowsOf_rs] <;> omega)); conv => whnf)
      | (refine brK_false ?_ ?_; (focus (simp only [List.length_nil, fx, rs_len, rowsOf_rs] <;> omega)); conv => whnf)
      | ((refine brK_of (fun h => ?_) (fun h => ?_)) <;> (have h2 := h; (try simp only [List.length_nil, fx, rs_len, rowsOf_rs] at h2); conv => whnf))
      | (refine reqK_of ?_ ?_; (focus (first | decide | omega | assumption | (simp only [List.length_nil, fx, rs_len, rowsOf_rs] <;> omega) | (simp [keyNew, sameKey, kEq] <;> omega))); conv => whnf)
      | (refine reqK_of ?_ ?_; rotate_left; (conv => whnf); rotate_left)
      | (refine nth_us ?_ ?_ ?_; (focus (first | omega | (simp only [List.length_nil, fx, rs_len, rowsOf_rs] <;> omega))); (focus (first | omega | (simp only [List.length_nil, fx, rs_len, rowsOf_rs] <;> omega))); conv => whnf)
      | (refine nth_is ?_ ?_ ?_; (focus (first | omega | (simp only [List.length_nil, fx, rs_len, rowsOf_rs] <;> omega))); (focus (first | omega | (simp only [List.length_nil, fx, rs_len, rowsOf_rs] <;> omega))); conv => whnf)
      | (refine nth_bs ?_ ?_ ?_; (focus (first | omega | (simp only [List.length_nil, fx, rs_len, rowsOf_rs] <;> omega))); (focus (first | omega | (simp only [List.length_nil, fx, rs_len, rowsOf_rs] <;> omega))); conv => whnf))
    all_goals first
      | exact hA
      | exact hB
      | exact hD
      | (exfalso; exact hs_f (by assumption))
      | (have ht : hThere L (IntKind.i64.wrap (a.tmod 8)) (IntKind.i64.wrap (b.tmod 5)) = true := by assumption
         unfold hPutOk at hp
         rw [ht, decide_eq_true c0, Bool.true_and, Bool.true_and, decide_eq_false_iff_not] at hp
         rw [ltI_def, decide_eq_true (by rw [rs_len]; omega)])
      | skip
  · have hP := hPut_yes (n := n) hp
    obtain ⟨ht, h0, h1⟩ := putOk_parts hp
    obtain ⟨t1, t2, t3, t4⟩ := hThere_iff.1 ht
    have hS := set_isH hl hL ht ic
    have hE := there_hSet (s := IntKind.i64.wrap (b.tmod 5)) (v := IntKind.i64.wrap (c.tmod 8)) (o' := IntKind.i64.wrap (a.tmod 8)) (s' := IntKind.i64.wrap (b.tmod 5)) t1 t2
    have hF := there_hSet (s := IntKind.i64.wrap (b.tmod 5)) (v := IntKind.i64.wrap (c.tmod 8)) (o' := IntKind.i64.wrap (d.tmod 8)) (s' := IntKind.i64.wrap (e.tmod 5)) t1 t2
    have hG := get_same (v := IntKind.i64.wrap (c.tmod 8)) ht
    have hH := fun hn => get_else (v := IntKind.i64.wrap (c.tmod 8)) (o' := IntKind.i64.wrap (d.tmod 8)) (s' := IntKind.i64.wrap (e.tmod 5)) ht hn
    have hI := put_eq n (v := IntKind.i64.wrap (c.tmod 8)) ht
    have hJ := fun hr => right_set (n := n) hr hp
    conv => whnf
    repeat' (first
      | (refine brK_true rfl ?_; conv => whnf)
      | (refine brK_false rfl ?_; conv => whnf)
      | (refine brK_true (by assumption) ?_; conv => whnf)
      | (refine brK_false (by assumption) ?_; conv => whnf)
      | (refine brK_true ?_ ?_; (focus (simp only [List.length_nil, fx, rs_len, rowsOf_rs] <;> omega)); conv => whnf)
      | (refine brK_false ?_ ?_; (focus (simp only [List.length_nil, fx, rs_len, rowsOf_rs] <;> omega)); conv => whnf)
      | ((refine brK_of (fun h => ?_) (fun h => ?_)) <;> (have h2 := h; (try simp only [List.length_nil, fx, rs_len, rowsOf_rs] at h2); conv => whnf))
      | (refine reqK_of ?_ ?_; (focus (first | decide | omega | assumption | (simp only [List.length_nil, fx, rs_len, rowsOf_rs] <;> omega) | (simp [keyNew, sameKey, kEq] <;> omega))); conv => whnf)
      | (refine reqK_of ?_ ?_; rotate_left; (conv => whnf); rotate_left)
      | (refine nth_us ?_ ?_ ?_; (focus (first | omega | (simp only [List.length_nil, fx, rs_len, rowsOf_rs] <;> omega))); (focus (first | omega | (simp only [List.length_nil, fx, rs_len, rowsOf_rs] <;> omega))); conv => whnf)
      | (refine nth_is ?_ ?_ ?_; (focus (first | omega | (simp only [List.length_nil, fx, rs_len, rowsOf_rs] <;> omega))); (focus (first | omega | (simp only [List.length_nil, fx, rs_len, rowsOf_rs] <;> omega))); conv => whnf)
      | (refine nth_bs ?_ ?_ ?_; (focus (first | omega | (simp only [List.length_nil, fx, rs_len, rowsOf_rs] <;> omega))); (focus (first | omega | (simp only [List.length_nil, fx, rs_len, rowsOf_rs] <;> omega))); conv => whnf))
    rw [rowsOf_rs, hP]
    conv => whnf
    repeat' (first
      | (refine brK_true rfl ?_; conv => whnf)
      | (refine brK_false rfl ?_; conv => whnf)
      | (refine brK_true (by assumption) ?_; conv => whnf)
      | (refine brK_false (by assumption) ?_; conv => whnf)
      | (refine brK_true ?_ ?_; (focus (simp only [List.length_nil, fx, rs_len, rowsOf_rs] <;> omega)); conv => whnf)
      | (refine brK_false ?_ ?_; (focus (simp only [List.length_nil, fx, rs_len, rowsOf_rs] <;> omega)); conv => whnf)
      | ((refine brK_of (fun h => ?_) (fun h => ?_)) <;> (have h2 := h; (try simp only [List.length_nil, fx, rs_len, rowsOf_rs] at h2); conv => whnf))
      | (refine reqK_of ?_ ?_; (focus (first | decide | omega | assumption | (simp only [List.length_nil, fx, rs_len, rowsOf_rs] <;> omega) | (simp [keyNew, sameKey, kEq] <;> omega))); conv => whnf)
      | (refine reqK_of ?_ ?_; rotate_left; (conv => whnf); rotate_left)
      | (refine nth_us ?_ ?_ ?_; (focus (first | omega | (simp only [List.length_nil, fx, rs_len, rowsOf_rs] <;> omega))); (focus (first | omega | (simp only [List.length_nil, fx, rs_len, rowsOf_rs] <;> omega))); conv => whnf)
      | (refine nth_is ?_ ?_ ?_; (focus (first | omega | (simp only [List.length_nil, fx, rs_len, rowsOf_rs] <;> omega))); (focus (first | omega | (simp only [List.length_nil, fx, rs_len, rowsOf_rs] <;> omega))); conv => whnf)
      | (refine nth_bs ?_ ?_ ?_; (focus (first | omega | (simp only [List.length_nil, fx, rs_len, rowsOf_rs] <;> omega))); (focus (first | omega | (simp only [List.length_nil, fx, rs_len, rowsOf_rs] <;> omega))); conv => whnf))
    all_goals first
      | exact hA
      | exact hB
      | exact hS
      | exact ⟨hS, hA.2⟩
      | exact ⟨hS, hB.2⟩
      | exact ⟨hq1, hS⟩
      | (simp only [rowsOf_rs]; rw [hI, eqB_self])
      | (exfalso; exact eqS_ff (by assumption))
      | (exfalso; simp only [rowsOf_rs] at *; simp_all; done)
      | skip
open Classical in
noncomputable def c10 : List T → Ans
  | [.agg [.int .i64 n, .list 1 xs], .int .u8 a, .int .u8 b, .int .u8 c, .int .u8 d, .int .u8 e] => .req (IsH xs ∧ U8 a ∧ U8 b ∧ U8 c ∧ U8 d ∧ U8 e) (.bool true)
  | _ => .no
theorem got10 {vs : List T} {x : T} (h : Got (c10 vs) x) : FnOk Tryd.prog tgl 10 vs x := by
  unfold c10 at h
  split at h
  · obtain ⟨hq, e⟩ := got_req h; rw [e]; exact ok10 _ _ _ _ _ _ _ hq
  · exact (got_no h).elim
theorem nogl10 (vs : List T) (p : Prop) (d : Decidable p) (sz : Nat) (xs : List T) (h : c10 vs = @Ans.gl p d sz xs) : False := by
  unfold c10 at h
  split at h <;> cases h
theorem pk10 (vs : List T) (p : Prop) (d : Decidable p) (x : T) (h : c10 vs = @Ans.pk p d x) (hp : p) : FnOk Tryd.prog tgl 10 vs x := by
  unfold c10 at h
  split at h
  · cases h
  · cases h
end Go.Nx
end
section
set_option linter.unusedVariables false
set_option linter.unusedSimpArgs false
set_option maxRecDepth 20000
set_option maxHeartbeats 4000000
namespace Go.Nx
open Go Go.RowKit Go.Proofs

def pL (L : List (List Int)) (o s v : Int) : List (List Int) := if hPutOk L o s v then hSet L o s v else L
theorem hPut_pL (n : Int) (L : List (List Int)) (o s v : Int) : hPut n L o s v = .tup [.agg [.int .i64 n, .list 1 (rs (pL L o s v))], .bool (hPutOk L o s v)] := by
  unfold pL
  cases h : hPutOk L o s v
  · rw [hPut_no h, if_neg (by decide)]
  · rw [hPut_yes h, if_pos rfl]
theorem pL_len (L : List (List Int)) (o s v : Int) : (pL L o s v).length = L.length := by
  unfold pL; split
  · exact hSet_len _ _ _ _
  · rfl
theorem there_pL (L : List (List Int)) (o s v o' s' : Int) : hThere (pL L o s v) o' s' = hThere L o' s' := by
  unfold pL; split
  · rename_i h
    obtain ⟨t1, t2, _⟩ := hThere_iff.1 (putOk_parts h).1
    exact there_hSet t1 t2
  · rfl
theorem ok_pL (L : List (List Int)) (o s v o' s' v' : Int) : hPutOk (pL L o s v) o' s' v' = hPutOk L o' s' v' := by
  unfold hPutOk
  rw [there_pL, pL_len]
theorem pL_yes {L : List (List Int)} {o s v : Int} (h : hPutOk L o s v = true) : pL L o s v = hSet L o s v := if_pos h
theorem pL_no {L : List (List Int)} {o s v : Int} (h : hPutOk L o s v = false) : pL L o s v = L := if_neg (by rw [h]; decide)
theorem ok_hSet {L : List (List Int)} {o s v o' s' v' : Int} (h : hPutOk L o s v = true) : hPutOk (hSet L o s v) o' s' v' = hPutOk L o' s' v' := by
  rw [← pL_yes h]; exact ok_pL _ _ _ _ _ _ _
theorem row_own {L : List (List Int)} {o s v : Int} (h : hPutOk L o s v = true) : row (hSet L o s v) o = (row L o).set s.toNat v := by
  obtain ⟨t1, t2, _⟩ := hThere_iff.1 (putOk_parts h).1
  rw [row_hSet t1 t2 t1, if_pos rfl]
theorem row_oth {L : List (List Int)} {o s v o' : Int} (h : hPutOk L o s v = true) (h1 : 1 ≤ o') (hn : o' ≠ o) : row (hSet L o s v) o' = row L o' := by
  obtain ⟨t1, t2, _⟩ := hThere_iff.1 (putOk_parts h).1
  rw [row_hSet t1 t2 h1, if_neg hn]
theorem hSet_set {L : List (List Int)} {o s u v : Int} (h : hPutOk L o s u = true) : hSet (hSet L o s u) o s v = hSet L o s v := by
  show (hSet L o s u).set (o - 1).toNat ((row (hSet L o s u) o).set s.toNat v) = _
  rw [row_own h]
  unfold hSet
  rw [List.set_set, List.set_set]
theorem hSet_comm {L : List (List Int)} {a x m b y n : Int} (h1 : hPutOk L a x m = true) (h2 : hPutOk L b y n = true) (hne : ¬ (a = b ∧ x = y)) :
    hSet (hSet L a x m) b y n = hSet (hSet L b y n) a x m := by
  obtain ⟨t1, t2, t3, t4⟩ := hThere_iff.1 (putOk_parts h1).1
  obtain ⟨u1, u2, u3, u4⟩ := hThere_iff.1 (putOk_parts h2).1
  show (hSet L a x m).set (b - 1).toNat ((row (hSet L a x m) b).set y.toNat n) = (hSet L b y n).set (a - 1).toNat ((row (hSet L b y n) a).set x.toNat m)
  by_cases e : a = b
  · subst e
    rw [row_own h1, row_own h2]
    unfold hSet
    rw [List.set_set, List.set_set, List.set_comm _ _ (show x.toNat ≠ y.toNat from fun e => hne ⟨rfl, by omega⟩)]
  · rw [row_oth h1 u1 (Ne.symm e), row_oth h2 t1 e]
    unfold hSet
    rw [List.set_comm _ _ (show (a - 1).toNat ≠ (b - 1).toNat by omega)]
theorem pL_comm (L : List (List Int)) {a x m b y n : Int} (hne : ¬ (a = b ∧ x = y)) : pL (pL L a x m) b y n = pL (pL L b y n) a x m := by
  cases h1 : hPutOk L a x m <;> cases h2 : hPutOk L b y n
  · rw [pL_no h1, pL_no h2, pL_no h1]
  · rw [pL_no h1, pL_yes h2, pL_no (by rw [ok_hSet h2]; exact h1)]
  · rw [pL_yes h1, pL_no h2, pL_yes h1, pL_no (by rw [ok_hSet h1]; exact h2)]
  · rw [pL_yes h1, pL_yes h2, pL_yes (by rw [ok_hSet h1]; exact h2), pL_yes (by rw [ok_hSet h2]; exact h1), hSet_comm h1 h2 hne]
theorem pL_same (L : List (List Int)) (a x m n : Int) : pL (pL (pL L a x m) a x n) a x m = pL (pL L a x n) a x m := by
  cases h1 : hPutOk L a x m
  · rw [pL_no h1]
  · rw [pL_yes h1]
    cases h2 : hPutOk L a x n
    · rw [pL_no (L := hSet L a x m) (v := n) (by rw [ok_hSet h1]; exact h2), pL_no h2, pL_yes (L := hSet L a x m) (by rw [ok_hSet h1]; exact h1), pL_yes h1, hSet_set h1]
    · rw [pL_yes (L := hSet L a x m) (v := n) (by rw [ok_hSet h1]; exact h2), pL_yes h2, hSet_set h1]
theorem pL_last (L : List (List Int)) {a x m b y n : Int} (hne : ¬ (a = b ∧ x = y)) (h1 : hPutOk L a x m = true) : pL (pL (pL L a x m) b y n) a x m = pL (pL L b y n) a x m := by
  rw [pL_comm L hne]
  have h3 : hPutOk (pL L b y n) a x m = true := by rw [ok_pL]; exact h1
  rw [pL_yes h3, pL_yes (by rw [ok_hSet h3]; exact h3), hSet_set h3]
theorem pL_isH {L : List (List Int)} (hq : IsH (rs L)) (o s v : Int) (hv : I64 v) : IsH (rs (pL L o s v)) := by
  unfold pL; split
  · rename_i h
    obtain ⟨M, e, hl, hL⟩ := hq
    have e2 : L = M := by have := congrArg rowsOf e; rwa [rowsOf_rs, rowsOf_rs] at this
    subst e2
    exact set_isH hl hL (putOk_parts h).1 hv
  · exact hq
theorem ok14 (k o s p q v w : Int) (xs : List T) (hq : IsH xs ∧ U8 o ∧ U8 s ∧ U8 p ∧ U8 q ∧ U8 v ∧ U8 w) : FnOk Tryd.prog tgl 14 [.agg [.int .i64 k, .list 1 xs], .int .u8 o, .int .u8 s, .int .u8 p, .int .u8 q, .int .u8 v, .int .u8 w] (.bool true) := by
  refine fn_ok (Γ := H21) env_H21 Tryd.func14 low14 ?_
  obtain ⟨⟨L, rfl, hl, hL⟩, ho, hs, hp, hq, hv, hw⟩ := hq
  have hq0 : IsH (rs L) := ⟨L, rfl, hl, hL⟩
  unfold U8 at ho hs hp hq hv hw
  have hq1 : IsH (rs (pL L (IntKind.i64.wrap (IntKind.i64.wrap (o.tmod 6) + 1)) (IntKind.i64.wrap (s.tmod 3)) (IntKind.i64.wrap (v.tmod 4)))) := pL_isH hq0 _ _ _ (wr64 _)
  have hq2 : IsH (rs (pL (pL L (IntKind.i64.wrap (IntKind.i64.wrap (o.tmod 6) + 1)) (IntKind.i64.wrap (s.tmod 3)) (IntKind.i64.wrap (v.tmod 4))) (IntKind.i64.wrap (IntKind.i64.wrap (p.tmod 6) + 1)) (IntKind.i64.wrap (q.tmod 3)) (IntKind.i64.wrap (w.tmod 4)))) := pL_isH hq1 _ _ _ (wr64 _)
  have hq3 : IsH (rs (pL L (IntKind.i64.wrap (IntKind.i64.wrap (p.tmod 6) + 1)) (IntKind.i64.wrap (q.tmod 3)) (IntKind.i64.wrap (w.tmod 4)))) := pL_isH hq0 _ _ _ (wr64 _)
  have hq4 : IsH (rs (pL (pL L (IntKind.i64.wrap (IntKind.i64.wrap (p.tmod 6) + 1)) (IntKind.i64.wrap (q.tmod 3)) (IntKind.i64.wrap (w.tmod 4))) (IntKind.i64.wrap (IntKind.i64.wrap (o.tmod 6) + 1)) (IntKind.i64.wrap (s.tmod 3)) (IntKind.i64.wrap (v.tmod 4)))) := pL_isH hq3 _ _ _ (wr64 _)
  have hq5 : IsH (rs (pL (pL (pL L (IntKind.i64.wrap (IntKind.i64.wrap (o.tmod 6) + 1)) (IntKind.i64.wrap (s.tmod 3)) (IntKind.i64.wrap (v.tmod 4))) (IntKind.i64.wrap (IntKind.i64.wrap (p.tmod 6) + 1)) (IntKind.i64.wrap (q.tmod 3)) (IntKind.i64.wrap (w.tmod 4))) (IntKind.i64.wrap (IntKind.i64.wrap (o.tmod 6) + 1)) (IntKind.i64.wrap (s.tmod 3)) (IntKind.i64.wrap (v.tmod 4)))) := pL_isH hq2 _ _ _ (wr64 _)
  have r0 : IsH (rs L) ∧ I64 (IntKind.i64.wrap (IntKind.i64.wrap (o.tmod 6) + 1)) ∧ I64 (IntKind.i64.wrap (s.tmod 3)) ∧ I64 (IntKind.i64.wrap (v.tmod 4)) := ⟨hq0, wr64 _, wr64 _, wr64 _⟩
  have r1 : IsH (rs (pL L (IntKind.i64.wrap (IntKind.i64.wrap (o.tmod 6) + 1)) (IntKind.i64.wrap (s.tmod 3)) (IntKind.i64.wrap (v.tmod 4)))) ∧ I64 (IntKind.i64.wrap (IntKind.i64.wrap (p.tmod 6) + 1)) ∧ I64 (IntKind.i64.wrap (q.tmod 3)) ∧ I64 (IntKind.i64.wrap (w.tmod 4)) := ⟨hq1, wr64 _, wr64 _, wr64 _⟩
  have r2 : IsH (rs L) ∧ I64 (IntKind.i64.wrap (IntKind.i64.wrap (p.tmod 6) + 1)) ∧ I64 (IntKind.i64.wrap (q.tmod 3)) ∧ I64 (IntKind.i64.wrap (w.tmod 4)) := ⟨hq0, wr64 _, wr64 _, wr64 _⟩
  have r3 : IsH (rs (pL L (IntKind.i64.wrap (IntKind.i64.wrap (p.tmod 6) + 1)) (IntKind.i64.wrap (q.tmod 3)) (IntKind.i64.wrap (w.tmod 4)))) ∧ I64 (IntKind.i64.wrap (IntKind.i64.wrap (o.tmod 6) + 1)) ∧ I64 (IntKind.i64.wrap (s.tmod 3)) ∧ I64 (IntKind.i64.wrap (v.tmod 4)) := ⟨hq3, wr64 _, wr64 _, wr64 _⟩
  have r4 : IsH (rs (pL (pL L (IntKind.i64.wrap (IntKind.i64.wrap (o.tmod 6) + 1)) (IntKind.i64.wrap (s.tmod 3)) (IntKind.i64.wrap (v.tmod 4))) (IntKind.i64.wrap (IntKind.i64.wrap (p.tmod 6) + 1)) (IntKind.i64.wrap (q.tmod 3)) (IntKind.i64.wrap (w.tmod 4)))) ∧ I64 (IntKind.i64.wrap (IntKind.i64.wrap (o.tmod 6) + 1)) ∧ I64 (IntKind.i64.wrap (s.tmod 3)) ∧ I64 (IntKind.i64.wrap (v.tmod 4)) := ⟨hq2, wr64 _, wr64 _, wr64 _⟩
  have u0 : IsH (rs (pL (pL (pL L (IntKind.i64.wrap (IntKind.i64.wrap (o.tmod 6) + 1)) (IntKind.i64.wrap (s.tmod 3)) (IntKind.i64.wrap (v.tmod 4))) (IntKind.i64.wrap (IntKind.i64.wrap (p.tmod 6) + 1)) (IntKind.i64.wrap (q.tmod 3)) (IntKind.i64.wrap (w.tmod 4))) (IntKind.i64.wrap (IntKind.i64.wrap (o.tmod 6) + 1)) (IntKind.i64.wrap (s.tmod 3)) (IntKind.i64.wrap (v.tmod 4)))) ∧ IsH (rs (pL (pL L (IntKind.i64.wrap (IntKind.i64.wrap (p.tmod 6) + 1)) (IntKind.i64.wrap (q.tmod 3)) (IntKind.i64.wrap (w.tmod 4))) (IntKind.i64.wrap (IntKind.i64.wrap (o.tmod 6) + 1)) (IntKind.i64.wrap (s.tmod 3)) (IntKind.i64.wrap (v.tmod 4)))) := ⟨hq5, hq4⟩
  have u1 : IsH (rs (pL (pL L (IntKind.i64.wrap (IntKind.i64.wrap (o.tmod 6) + 1)) (IntKind.i64.wrap (s.tmod 3)) (IntKind.i64.wrap (v.tmod 4))) (IntKind.i64.wrap (IntKind.i64.wrap (p.tmod 6) + 1)) (IntKind.i64.wrap (q.tmod 3)) (IntKind.i64.wrap (w.tmod 4)))) ∧ IsH (rs (pL (pL L (IntKind.i64.wrap (IntKind.i64.wrap (p.tmod 6) + 1)) (IntKind.i64.wrap (q.tmod 3)) (IntKind.i64.wrap (w.tmod 4))) (IntKind.i64.wrap (IntKind.i64.wrap (o.tmod 6) + 1)) (IntKind.i64.wrap (s.tmod 3)) (IntKind.i64.wrap (v.tmod 4)))) := ⟨hq2, hq4⟩
  have heqs : ∀ A B, A = B → hSame k k (rowsOf (rs A)) (rowsOf (rs B)) = true := fun A B e => by rw [e, hSame_self]
  by_cases he : (IntKind.i64.wrap (IntKind.i64.wrap (o.tmod 6) + 1)) = (IntKind.i64.wrap (IntKind.i64.wrap (p.tmod 6) + 1)) ∧ (IntKind.i64.wrap (s.tmod 3)) = (IntKind.i64.wrap (q.tmod 3))
  · have hs1 : hSame k k (rowsOf (rs (pL (pL (pL L (IntKind.i64.wrap (IntKind.i64.wrap (o.tmod 6) + 1)) (IntKind.i64.wrap (s.tmod 3)) (IntKind.i64.wrap (v.tmod 4))) (IntKind.i64.wrap (IntKind.i64.wrap (p.tmod 6) + 1)) (IntKind.i64.wrap (q.tmod 3)) (IntKind.i64.wrap (w.tmod 4))) (IntKind.i64.wrap (IntKind.i64.wrap (o.tmod 6) + 1)) (IntKind.i64.wrap (s.tmod 3)) (IntKind.i64.wrap (v.tmod 4))))) (rowsOf (rs (pL (pL L (IntKind.i64.wrap (IntKind.i64.wrap (p.tmod 6) + 1)) (IntKind.i64.wrap (q.tmod 3)) (IntKind.i64.wrap (w.tmod 4))) (IntKind.i64.wrap (IntKind.i64.wrap (o.tmod 6) + 1)) (IntKind.i64.wrap (s.tmod 3)) (IntKind.i64.wrap (v.tmod 4))))) = true := heqs _ _ (by rw [← he.1, ← he.2]; exact pL_same L _ _ _ _)
    conv => whnf
    repeat' (first
      | (refine brK_true rfl ?_; conv => whnf)
      | (refine brK_false rfl ?_; conv => whnf)
      | (refine brK_true (by assumption) ?_; conv => whnf)
      | (refine brK_false (by assumption) ?_; conv => whnf)
      | (refine brK_true ?_ ?_; (focus (simp only [List.length_nil, fx, rs_len] <;> omega)); conv => whnf)
      | (refine brK_false ?_ ?_; (focus (simp only [List.length_nil, fx, rs_len] <;> omega)); conv => whnf)
      | ((refine brK_of (fun h => ?_) (fun h => ?_)) <;> (have h2 := h; (try simp only [List.length_nil, fx, rs_len] at h2); conv => whnf))
      | (refine reqK_of ?_ ?_; (focus (first | decide | omega | assumption | (simp only [List.length_nil, fx, rs_len] <;> omega) | (simp [keyNew, sameKey, kEq] <;> omega))); conv => whnf)
      | (refine reqK_of ?_ ?_; rotate_left; (conv => whnf); rotate_left)
      | (refine nth_us ?_ ?_ ?_; (focus (first | omega | (simp only [List.length_nil, fx, rs_len] <;> omega))); (focus (first | omega | (simp only [List.length_nil, fx, rs_len] <;> omega))); conv => whnf)
      | (refine nth_is ?_ ?_ ?_; (focus (first | omega | (simp only [List.length_nil, fx, rs_len] <;> omega))); (focus (first | omega | (simp only [List.length_nil, fx, rs_len] <;> omega))); conv => whnf)
      | (refine nth_bs ?_ ?_ ?_; (focus (first | omega | (simp only [List.length_nil, fx, rs_len] <;> omega))); (focus (first | omega | (simp only [List.length_nil, fx, rs_len] <;> omega))); conv => whnf))
    rw [rowsOf_rs, hPut_pL]
    conv => whnf
    repeat' (first
      | (refine brK_true rfl ?_; conv => whnf)
      | (refine brK_false rfl ?_; conv => whnf)
      | (refine brK_true (by assumption) ?_; conv => whnf)
      | (refine brK_false (by assumption) ?_; conv => whnf)
      | (refine brK_true ?_ ?_; (focus (simp only [List.length_nil, fx, rs_len] <;> omega)); conv => whnf)
      | (refine brK_false ?_ ?_; (focus (simp only [List.length_nil, fx, rs_len] <;> omega)); conv => whnf)
      | ((refine brK_of (fun h => ?_) (fun h => ?_)) <;> (have h2 := h; (try simp only [List.length_nil, fx, rs_len] at h2); conv => whnf))
      | (refine reqK_of ?_ ?_; (focus (first | decide | omega | assumption | (simp only [List.length_nil, fx, rs_len] <;> omega) | (simp [keyNew, sameKey, kEq] <;> omega))); conv => whnf)
      | (refine reqK_of ?_ ?_; rotate_left; (conv => whnf); rotate_left)
      | (refine nth_us ?_ ?_ ?_; (focus (first | omega | (simp only [List.length_nil, fx, rs_len] <;> omega))); (focus (first | omega | (simp only [List.length_nil, fx, rs_len] <;> omega))); conv => whnf)
      | (refine nth_is ?_ ?_ ?_; (focus (first | omega | (simp only [List.length_nil, fx, rs_len] <;> omega))); (focus (first | omega | (simp only [List.length_nil, fx, rs_len] <;> omega))); conv => whnf)
      | (refine nth_bs ?_ ?_ ?_; (focus (first | omega | (simp only [List.length_nil, fx, rs_len] <;> omega))); (focus (first | omega | (simp only [List.length_nil, fx, rs_len] <;> omega))); conv => whnf))
    rw [rowsOf_rs, hPut_pL]
    conv => whnf
    repeat' (first
      | (refine brK_true rfl ?_; conv => whnf)
      | (refine brK_false rfl ?_; conv => whnf)
      | (refine brK_true (by assumption) ?_; conv => whnf)
      | (refine brK_false (by assumption) ?_; conv => whnf)
      | (refine brK_true ?_ ?_; (focus (simp only [List.length_nil, fx, rs_len] <;> omega)); conv => whnf)
      | (refine brK_false ?_ ?_; (focus (simp only [List.length_nil, fx, rs_len] <;> omega)); conv => whnf)
      | ((refine brK_of (fun h => ?_) (fun h => ?_)) <;> (have h2 := h; (try simp only [List.length_nil, fx, rs_len] at h2); conv => whnf))
      | (refine reqK_of ?_ ?_; (focus (first | decide | omega | assumption | (simp only [List.length_nil, fx, rs_len] <;> omega) | (simp [keyNew, sameKey, kEq] <;> omega))); conv => whnf)
      | (refine reqK_of ?_ ?_; rotate_left; (conv => whnf); rotate_left)
      | (refine nth_us ?_ ?_ ?_; (focus (first | omega | (simp only [List.length_nil, fx, rs_len] <;> omega))); (focus (first | omega | (simp only [List.length_nil, fx, rs_len] <;> omega))); conv => whnf)
      | (refine nth_is ?_ ?_ ?_; (focus (first | omega | (simp only [List.length_nil, fx, rs_len] <;> omega))); (focus (first | omega | (simp only [List.length_nil, fx, rs_len] <;> omega))); conv => whnf)
      | (refine nth_bs ?_ ?_ ?_; (focus (first | omega | (simp only [List.length_nil, fx, rs_len] <;> omega))); (focus (first | omega | (simp only [List.length_nil, fx, rs_len] <;> omega))); conv => whnf))
    rw [rowsOf_rs, hPut_pL]
    conv => whnf
    repeat' (first
      | (refine brK_true rfl ?_; conv => whnf)
      | (refine brK_false rfl ?_; conv => whnf)
      | (refine brK_true (by assumption) ?_; conv => whnf)
      | (refine brK_false (by assumption) ?_; conv => whnf)
      | (refine brK_true ?_ ?_; (focus (simp only [List.length_nil, fx, rs_len] <;> omega)); conv => whnf)
      | (refine brK_false ?_ ?_; (focus (simp only [List.length_nil, fx, rs_len] <;> omega)); conv => whnf)
      | ((refine brK_of (fun h => ?_) (fun h => ?_)) <;> (have h2 := h; (try simp only [List.length_nil, fx, rs_len] at h2); conv => whnf))
      | (refine reqK_of ?_ ?_; (focus (first | decide | omega | assumption | (simp only [List.length_nil, fx, rs_len] <;> omega) | (simp [keyNew, sameKey, kEq] <;> omega))); conv => whnf)
      | (refine reqK_of ?_ ?_; rotate_left; (conv => whnf); rotate_left)
      | (refine nth_us ?_ ?_ ?_; (focus (first | omega | (simp only [List.length_nil, fx, rs_len] <;> omega))); (focus (first | omega | (simp only [List.length_nil, fx, rs_len] <;> omega))); conv => whnf)
      | (refine nth_is ?_ ?_ ?_; (focus (first | omega | (simp only [List.length_nil, fx, rs_len] <;> omega))); (focus (first | omega | (simp only [List.length_nil, fx, rs_len] <;> omega))); conv => whnf)
      | (refine nth_bs ?_ ?_ ?_; (focus (first | omega | (simp only [List.length_nil, fx, rs_len] <;> omega))); (focus (first | omega | (simp only [List.length_nil, fx, rs_len] <;> omega))); conv => whnf))
    rw [rowsOf_rs, hPut_pL]
    conv => whnf
    repeat' (first
      | (refine brK_true rfl ?_; conv => whnf)
      | (refine brK_false rfl ?_; conv => whnf)
      | (refine brK_true (by assumption) ?_; conv => whnf)
      | (refine brK_false (by assumption) ?_; conv => whnf)
      | (refine brK_true ?_ ?_; (focus (simp only [List.length_nil, fx, rs_len] <;> omega)); conv => whnf)
      | (refine brK_false ?_ ?_; (focus (simp only [List.length_nil, fx, rs_len] <;> omega)); conv => whnf)
      | ((refine brK_of (fun h => ?_) (fun h => ?_)) <;> (have h2 := h; (try simp only [List.length_nil, fx, rs_len] at h2); conv => whnf))
      | (refine reqK_of ?_ ?_; (focus (first | decide | omega | assumption | (simp only [List.length_nil, fx, rs_len] <;> omega) | (simp [keyNew, sameKey, kEq] <;> omega))); conv => whnf)
      | (refine reqK_of ?_ ?_; rotate_left; (conv => whnf); rotate_left)
      | (refine nth_us ?_ ?_ ?_; (focus (first | omega | (simp only [List.length_nil, fx, rs_len] <;> omega))); (focus (first | omega | (simp only [List.length_nil, fx, rs_len] <;> omega))); conv => whnf)
      | (refine nth_is ?_ ?_ ?_; (focus (first | omega | (simp only [List.length_nil, fx, rs_len] <;> omega))); (focus (first | omega | (simp only [List.length_nil, fx, rs_len] <;> omega))); conv => whnf)
      | (refine nth_bs ?_ ?_ ?_; (focus (first | omega | (simp only [List.length_nil, fx, rs_len] <;> omega))); (focus (first | omega | (simp only [List.length_nil, fx, rs_len] <;> omega))); conv => whnf))
    rw [rowsOf_rs, hPut_pL]
    conv => whnf
    repeat' (first
      | (refine brK_true rfl ?_; conv => whnf)
      | (refine brK_false rfl ?_; conv => whnf)
      | (refine brK_true (by assumption) ?_; conv => whnf)
      | (refine brK_false (by assumption) ?_; conv => whnf)
      | (refine brK_true ?_ ?_; (focus (simp only [List.length_nil, fx, rs_len] <;> omega)); conv => whnf)
      | (refine brK_false ?_ ?_; (focus (simp only [List.length_nil, fx, rs_len] <;> omega)); conv => whnf)
      | ((refine brK_of (fun h => ?_) (fun h => ?_)) <;> (have h2 := h; (try simp only [List.length_nil, fx, rs_len] at h2); conv => whnf))
      | (refine reqK_of ?_ ?_; (focus (first | decide | omega | assumption | (simp only [List.length_nil, fx, rs_len] <;> omega) | (simp [keyNew, sameKey, kEq] <;> omega))); conv => whnf)
      | (refine reqK_of ?_ ?_; rotate_left; (conv => whnf); rotate_left)
      | (refine nth_us ?_ ?_ ?_; (focus (first | omega | (simp only [List.length_nil, fx, rs_len] <;> omega))); (focus (first | omega | (simp only [List.length_nil, fx, rs_len] <;> omega))); conv => whnf)
      | (refine nth_is ?_ ?_ ?_; (focus (first | omega | (simp only [List.length_nil, fx, rs_len] <;> omega))); (focus (first | omega | (simp only [List.length_nil, fx, rs_len] <;> omega))); conv => whnf)
      | (refine nth_bs ?_ ?_ ?_; (focus (first | omega | (simp only [List.length_nil, fx, rs_len] <;> omega))); (focus (first | omega | (simp only [List.length_nil, fx, rs_len] <;> omega))); conv => whnf))
    all_goals first
      | exact congrArg T.bool hs1
      | (exfalso; exact absurd he.1 (by assumption))
      | (exfalso; exact absurd he.2 (by assumption))
  · have hs0 : hSame k k (rowsOf (rs (pL (pL L (IntKind.i64.wrap (IntKind.i64.wrap (o.tmod 6) + 1)) (IntKind.i64.wrap (s.tmod 3)) (IntKind.i64.wrap (v.tmod 4))) (IntKind.i64.wrap (IntKind.i64.wrap (p.tmod 6) + 1)) (IntKind.i64.wrap (q.tmod 3)) (IntKind.i64.wrap (w.tmod 4))))) (rowsOf (rs (pL (pL L (IntKind.i64.wrap (IntKind.i64.wrap (p.tmod 6) + 1)) (IntKind.i64.wrap (q.tmod 3)) (IntKind.i64.wrap (w.tmod 4))) (IntKind.i64.wrap (IntKind.i64.wrap (o.tmod 6) + 1)) (IntKind.i64.wrap (s.tmod 3)) (IntKind.i64.wrap (v.tmod 4))))) = true := heqs _ _ (pL_comm L he)
    cases hp : hPutOk L (IntKind.i64.wrap (IntKind.i64.wrap (o.tmod 6) + 1)) (IntKind.i64.wrap (s.tmod 3)) (IntKind.i64.wrap (v.tmod 4))
    · have hf : hPutOk (pL L (IntKind.i64.wrap (IntKind.i64.wrap (p.tmod 6) + 1)) (IntKind.i64.wrap (q.tmod 3)) (IntKind.i64.wrap (w.tmod 4))) (IntKind.i64.wrap (IntKind.i64.wrap (o.tmod 6) + 1)) (IntKind.i64.wrap (s.tmod 3)) (IntKind.i64.wrap (v.tmod 4)) = false := by rw [ok_pL]; exact hp
      conv => whnf
      repeat' (first
        | (refine brK_true rfl ?_; conv => whnf)
        | (refine brK_false rfl ?_; conv => whnf)
        | (refine brK_true (by assumption) ?_; conv => whnf)
        | (refine brK_false (by assumption) ?_; conv => whnf)
        | (refine brK_true ?_ ?_; (focus (simp only [List.length_nil, fx, rs_len] <;> omega)); conv => whnf)
        | (refine brK_false ?_ ?_; (focus (simp only [List.length_nil, fx, rs_len] <;> omega)); conv => whnf)
        | ((refine brK_of (fun h => ?_) (fun h => ?_)) <;> (have h2 := h; (try simp only [List.length_nil, fx, rs_len] at h2); conv => whnf))
        | (refine reqK_of ?_ ?_; (focus (first | decide | omega | assumption | (simp only [List.length_nil, fx, rs_len] <;> omega) | (simp [keyNew, sameKey, kEq] <;> omega))); conv => whnf)
        | (refine reqK_of ?_ ?_; rotate_left; (conv => whnf); rotate_left)
        | (refine nth_us ?_ ?_ ?_; (focus (first | omega | (simp only [List.length_nil, fx, rs_len] <;> omega))); (focus (first | omega | (simp only [List.length_nil, fx, rs_len] <;> omega))); conv => whnf)
        | (refine nth_is ?_ ?_ ?_; (focus (first | omega | (simp only [List.length_nil, fx, rs_len] <;> omega))); (focus (first | omega | (simp only [List.length_nil, fx, rs_len] <;> omega))); conv => whnf)
        | (refine nth_bs ?_ ?_ ?_; (focus (first | omega | (simp only [List.length_nil, fx, rs_len] <;> omega))); (focus (first | omega | (simp only [List.length_nil, fx, rs_len] <;> omega))); conv => whnf))
      rw [rowsOf_rs, hPut_pL]
      conv => whnf
      repeat' (first
        | (refine brK_true rfl ?_; conv => whnf)
        | (refine brK_false rfl ?_; conv => whnf)
        | (refine brK_true (by assumption) ?_; conv => whnf)
        | (refine brK_false (by assumption) ?_; conv => whnf)
        | (refine brK_true ?_ ?_; (focus (simp only [List.length_nil, fx, rs_len] <;> omega)); conv => whnf)
        | (refine brK_false ?_ ?_; (focus (simp only [List.length_nil, fx, rs_len] <;> omega)); conv => whnf)
        | ((refine brK_of (fun h => ?_) (fun h => ?_)) <;> (have h2 := h; (try simp only [List.length_nil, fx, rs_len] at h2); conv => whnf))
        | (refine reqK_of ?_ ?_; (focus (first | decide | omega | assumption | (simp only [List.length_nil, fx, rs_len] <;> omega) | (simp [keyNew, sameKey, kEq] <;> omega))); conv => whnf)
        | (refine reqK_of ?_ ?_; rotate_left; (conv => whnf); rotate_left)
        | (refine nth_us ?_ ?_ ?_; (focus (first | omega | (simp only [List.length_nil, fx, rs_len] <;> omega))); (focus (first | omega | (simp only [List.length_nil, fx, rs_len] <;> omega))); conv => whnf)
        | (refine nth_is ?_ ?_ ?_; (focus (first | omega | (simp only [List.length_nil, fx, rs_len] <;> omega))); (focus (first | omega | (simp only [List.length_nil, fx, rs_len] <;> omega))); conv => whnf)
        | (refine nth_bs ?_ ?_ ?_; (focus (first | omega | (simp only [List.length_nil, fx, rs_len] <;> omega))); (focus (first | omega | (simp only [List.length_nil, fx, rs_len] <;> omega))); conv => whnf))
      rw [rowsOf_rs, hPut_pL]
      conv => whnf
      repeat' (first
        | (refine brK_true rfl ?_; conv => whnf)
        | (refine brK_false rfl ?_; conv => whnf)
        | (refine brK_true (by assumption) ?_; conv => whnf)
        | (refine brK_false (by assumption) ?_; conv => whnf)
        | (refine brK_true ?_ ?_; (focus (simp only [List.length_nil, fx, rs_len] <;> omega)); conv => whnf)
        | (refine brK_false ?_ ?_; (focus (simp only [List.length_nil, fx, rs_len] <;> omega)); conv => whnf)
        | ((refine brK_of (fun h => ?_) (fun h => ?_)) <;> (have h2 := h; (try simp only [List.length_nil, fx, rs_len] at h2); conv => whnf))
        | (refine reqK_of ?_ ?_; (focus (first | decide | omega | assumption | (simp only [List.length_nil, fx, rs_len] <;> omega) | (simp [keyNew, sameKey, kEq] <;> omega))); conv => whnf)
        | (refine reqK_of ?_ ?_; rotate_left; (conv => whnf); rotate_left)
        | (refine nth_us ?_ ?_ ?_; (focus (first | omega | (simp only [List.length_nil, fx, rs_len] <;> omega))); (focus (first | omega | (simp only [List.length_nil, fx, rs_len] <;> omega))); conv => whnf)
        | (refine nth_is ?_ ?_ ?_; (focus (first | omega | (simp only [List.length_nil, fx, rs_len] <;> omega))); (focus (first | omega | (simp only [List.length_nil, fx, rs_len] <;> omega))); conv => whnf)
        | (refine nth_bs ?_ ?_ ?_; (focus (first | omega | (simp only [List.length_nil, fx, rs_len] <;> omega))); (focus (first | omega | (simp only [List.length_nil, fx, rs_len] <;> omega))); conv => whnf))
      rw [rowsOf_rs, hPut_pL]
      conv => whnf
      repeat' (first
        | (refine brK_true rfl ?_; conv => whnf)
        | (refine brK_false rfl ?_; conv => whnf)
        | (refine brK_true (by assumption) ?_; conv => whnf)
        | (refine brK_false (by assumption) ?_; conv => whnf)
        | (refine brK_true ?_ ?_; (focus (simp only [List.length_nil, fx, rs_len] <;> omega)); conv => whnf)
        | (refine brK_false ?_ ?_; (focus (simp only [List.length_nil, fx, rs_len] <;> omega)); conv => whnf)
        | ((refine brK_of (fun h => ?_) (fun h => ?_)) <;> (have h2 := h; (try simp only [List.length_nil, fx, rs_len] at h2); conv => whnf))
        | (refine reqK_of ?_ ?_; (focus (first | decide | omega | assumption | (simp only [List.length_nil, fx, rs_len] <;> omega) | (simp [keyNew, sameKey, kEq] <;> omega))); conv => whnf)
        | (refine reqK_of ?_ ?_; rotate_left; (conv => whnf); rotate_left)
        | (refine nth_us ?_ ?_ ?_; (focus (first | omega | (simp only [List.length_nil, fx, rs_len] <;> omega))); (focus (first | omega | (simp only [List.length_nil, fx, rs_len] <;> omega))); conv => whnf)
        | (refine nth_is ?_ ?_ ?_; (focus (first | omega | (simp only [List.length_nil, fx, rs_len] <;> omega))); (focus (first | omega | (simp only [List.length_nil, fx, rs_len] <;> omega))); conv => whnf)
        | (refine nth_bs ?_ ?_ ?_; (focus (first | omega | (simp only [List.length_nil, fx, rs_len] <;> omega))); (focus (first | omega | (simp only [List.length_nil, fx, rs_len] <;> omega))); conv => whnf))
      rw [rowsOf_rs, hPut_pL]
      conv => whnf
      repeat' (first
        | (refine brK_true rfl ?_; conv => whnf)
        | (refine brK_false rfl ?_; conv => whnf)
        | (refine brK_true (by assumption) ?_; conv => whnf)
        | (refine brK_false (by assumption) ?_; conv => whnf)
        | (refine brK_true ?_ ?_; (focus (simp only [List.length_nil, fx, rs_len] <;> omega)); conv => whnf)
        | (refine brK_false ?_ ?_; (focus (simp only [List.length_nil, fx, rs_len] <;> omega)); conv => whnf)
        | ((refine brK_of (fun h => ?_) (fun h => ?_)) <;> (have h2 := h; (try simp only [List.length_nil, fx, rs_len] at h2); conv => whnf))
        | (refine reqK_of ?_ ?_; (focus (first | decide | omega | assumption | (simp only [List.length_nil, fx, rs_len] <;> omega) | (simp [keyNew, sameKey, kEq] <;> omega))); conv => whnf)
        | (refine reqK_of ?_ ?_; rotate_left; (conv => whnf); rotate_left)
        | (refine nth_us ?_ ?_ ?_; (focus (first | omega | (simp only [List.length_nil, fx, rs_len] <;> omega))); (focus (first | omega | (simp only [List.length_nil, fx, rs_len] <;> omega))); conv => whnf)
        | (refine nth_is ?_ ?_ ?_; (focus (first | omega | (simp only [List.length_nil, fx, rs_len] <;> omega))); (focus (first | omega | (simp only [List.length_nil, fx, rs_len] <;> omega))); conv => whnf)
        | (refine nth_bs ?_ ?_ ?_; (focus (first | omega | (simp only [List.length_nil, fx, rs_len] <;> omega))); (focus (first | omega | (simp only [List.length_nil, fx, rs_len] <;> omega))); conv => whnf))
      rw [rowsOf_rs, hPut_pL]
      conv => whnf
      repeat' (first
        | (refine brK_true rfl ?_; conv => whnf)
        | (refine brK_false rfl ?_; conv => whnf)
        | (refine brK_true (by assumption) ?_; conv => whnf)
        | (refine brK_false (by assumption) ?_; conv => whnf)
        | (refine brK_true ?_ ?_; (focus (simp only [List.length_nil, fx, rs_len] <;> omega)); conv => whnf)
        | (refine brK_false ?_ ?_; (focus (simp only [List.length_nil, fx, rs_len] <;> omega)); conv => whnf)
        | ((refine brK_of (fun h => ?_) (fun h => ?_)) <;> (have h2 := h; (try simp only [List.length_nil, fx, rs_len] at h2); conv => whnf))
        | (refine reqK_of ?_ ?_; (focus (first | decide | omega | assumption | (simp only [List.length_nil, fx, rs_len] <;> omega) | (simp [keyNew, sameKey, kEq] <;> omega))); conv => whnf)
        | (refine reqK_of ?_ ?_; rotate_left; (conv => whnf); rotate_left)
        | (refine nth_us ?_ ?_ ?_; (focus (first | omega | (simp only [List.length_nil, fx, rs_len] <;> omega))); (focus (first | omega | (simp only [List.length_nil, fx, rs_len] <;> omega))); conv => whnf)
        | (refine nth_is ?_ ?_ ?_; (focus (first | omega | (simp only [List.length_nil, fx, rs_len] <;> omega))); (focus (first | omega | (simp only [List.length_nil, fx, rs_len] <;> omega))); conv => whnf)
        | (refine nth_bs ?_ ?_ ?_; (focus (first | omega | (simp only [List.length_nil, fx, rs_len] <;> omega))); (focus (first | omega | (simp only [List.length_nil, fx, rs_len] <;> omega))); conv => whnf))
      all_goals first
        | rfl
        | (exfalso; exact he ⟨by assumption, by assumption⟩)
    · have hf : hPutOk (pL L (IntKind.i64.wrap (IntKind.i64.wrap (p.tmod 6) + 1)) (IntKind.i64.wrap (q.tmod 3)) (IntKind.i64.wrap (w.tmod 4))) (IntKind.i64.wrap (IntKind.i64.wrap (o.tmod 6) + 1)) (IntKind.i64.wrap (s.tmod 3)) (IntKind.i64.wrap (v.tmod 4)) = true := by rw [ok_pL]; exact hp
      have hs1 : hSame k k (rowsOf (rs (pL (pL (pL L (IntKind.i64.wrap (IntKind.i64.wrap (o.tmod 6) + 1)) (IntKind.i64.wrap (s.tmod 3)) (IntKind.i64.wrap (v.tmod 4))) (IntKind.i64.wrap (IntKind.i64.wrap (p.tmod 6) + 1)) (IntKind.i64.wrap (q.tmod 3)) (IntKind.i64.wrap (w.tmod 4))) (IntKind.i64.wrap (IntKind.i64.wrap (o.tmod 6) + 1)) (IntKind.i64.wrap (s.tmod 3)) (IntKind.i64.wrap (v.tmod 4))))) (rowsOf (rs (pL (pL L (IntKind.i64.wrap (IntKind.i64.wrap (p.tmod 6) + 1)) (IntKind.i64.wrap (q.tmod 3)) (IntKind.i64.wrap (w.tmod 4))) (IntKind.i64.wrap (IntKind.i64.wrap (o.tmod 6) + 1)) (IntKind.i64.wrap (s.tmod 3)) (IntKind.i64.wrap (v.tmod 4))))) = true := heqs _ _ (pL_last L he hp)
      conv => whnf
      repeat' (first
        | (refine brK_true rfl ?_; conv => whnf)
        | (refine brK_false rfl ?_; conv => whnf)
        | (refine brK_true (by assumption) ?_; conv => whnf)
        | (refine brK_false (by assumption) ?_; conv => whnf)
        | (refine brK_true ?_ ?_; (focus (simp only [List.length_nil, fx, rs_len] <;> omega)); conv => whnf)
        | (refine brK_false ?_ ?_; (focus (simp only [List.length_nil, fx, rs_len] <;> omega)); conv => whnf)
        | ((refine brK_of (fun h => ?_) (fun h => ?_)) <;> (have h2 := h; (try simp only [List.length_nil, fx, rs_len] at h2); conv => whnf))
        | (refine reqK_of ?_ ?_; (focus (first | decide | omega | assumption | (simp only [List.length_nil, fx, rs_len] <;> omega) | (simp [keyNew, sameKey, kEq] <;> omega))); conv => whnf)
        | (refine reqK_of ?_ ?_; rotate_left; (conv => whnf); rotate_left)
        | (refine nth_us ?_ ?_ ?_; (focus (first | omega | (simp only [List.length_nil, fx, rs_len] <;> omega))); (focus (first | omega | (simp only [List.length_nil, fx, rs_len] <;> omega))); conv => whnf)
        | (refine nth_is ?_ ?_ ?_; (focus (first | omega | (simp only [List.length_nil, fx, rs_len] <;> omega))); (focus (first | omega | (simp only [List.length_nil, fx, rs_len] <;> omega))); conv => whnf)
        | (refine nth_bs ?_ ?_ ?_; (focus (first | omega | (simp only [List.length_nil, fx, rs_len] <;> omega))); (focus (first | omega | (simp only [List.length_nil, fx, rs_len] <;> omega))); conv => whnf))
      rw [rowsOf_rs, hPut_pL]
      conv => whnf
      repeat' (first
        | (refine brK_true rfl ?_; conv => whnf)
        | (refine brK_false rfl ?_; conv => whnf)
        | (refine brK_true (by assumption) ?_; conv => whnf)
        | (refine brK_false (by assumption) ?_; conv => whnf)
        | (refine brK_true ?_ ?_; (focus (simp only [List.length_nil, fx, rs_len] <;> omega)); conv => whnf)
        | (refine brK_false ?_ ?_; (focus (simp only [List.length_nil, fx, rs_len] <;> omega)); conv => whnf)
        | ((refine brK_of (fun h => ?_) (fun h => ?_)) <;> (have h2 := h; (try simp only [List.length_nil, fx, rs_len] at h2); conv => whnf))
        | (refine reqK_of ?_ ?_; (focus (first | decide | omega | assumption | (simp only [List.length_nil, fx, rs_len] <;> omega) | (simp [keyNew, sameKey, kEq] <;> omega))); conv => whnf)
        | (refine reqK_of ?_ ?_; rotate_left; (conv => whnf); rotate_left)
        | (refine nth_us ?_ ?_ ?_; (focus (first | omega | (simp only [List.length_nil, fx, rs_len] <;> omega))); (focus (first | omega | (simp only [List.length_nil, fx, rs_len] <;> omega))); conv => whnf)
        | (refine nth_is ?_ ?_ ?_; (focus (first | omega | (simp only [List.length_nil, fx, rs_len] <;> omega))); (focus (first | omega | (simp only [List.length_nil, fx, rs_len] <;> omega))); conv => whnf)
        | (refine nth_bs ?_ ?_ ?_; (focus (first | omega | (simp only [List.length_nil, fx, rs_len] <;> omega))); (focus (first | omega | (simp only [List.length_nil, fx, rs_len] <;> omega))); conv => whnf))
      rw [rowsOf_rs, hPut_pL]
      conv => whnf
      repeat' (first
        | (refine brK_true rfl ?_; conv => whnf)
        | (refine brK_false rfl ?_; conv => whnf)
        | (refine brK_true (by assumption) ?_; conv => whnf)
        | (refine brK_false (by assumption) ?_; conv => whnf)
        | (refine brK_true ?_ ?_; (focus (simp only [List.length_nil, fx, rs_len] <;> omega)); conv => whnf)
        | (refine brK_false ?_ ?_; (focus (simp only [List.length_nil, fx, rs_len] <;> omega)); conv => whnf)
        | ((refine brK_of (fun h => ?_) (fun h => ?_)) <;> (have h2 := h; (try simp only [List.length_nil, fx, rs_len] at h2); conv => whnf))
        | (refine reqK_of ?_ ?_; (focus (first | decide | omega | assumption | (simp only [List.length_nil, fx, rs_len] <;> omega) | (simp [keyNew, sameKey, kEq] <;> omega))); conv => whnf)
        | (refine reqK_of ?_ ?_; rotate_left; (conv => whnf); rotate_left)
        | (refine nth_us ?_ ?_ ?_; (focus (first | omega | (simp only [List.length_nil, fx, rs_len] <;> omega))); (focus (first | omega | (simp only [List.length_nil, fx, rs_len] <;> omega))); conv => whnf)
        | (refine nth_is ?_ ?_ ?_; (focus (first | omega | (simp only [List.length_nil, fx, rs_len] <;> omega))); (focus (first | omega | (simp only [List.length_nil, fx, rs_len] <;> omega))); conv => whnf)
        | (refine nth_bs ?_ ?_ ?_; (focus (first | omega | (simp only [List.length_nil, fx, rs_len] <;> omega))); (focus (first | omega | (simp only [List.length_nil, fx, rs_len] <;> omega))); conv => whnf))
      rw [rowsOf_rs, hPut_pL]
      conv => whnf
      repeat' (first
        | (refine brK_true rfl ?_; conv => whnf)
        | (refine brK_false rfl ?_; conv => whnf)
        | (refine brK_true (by assumption) ?_; conv => whnf)
        | (refine brK_false (by assumption) ?_; conv => whnf)
        | (refine brK_true ?_ ?_; (focus (simp only [List.length_nil, fx, rs_len] <;> omega)); conv => whnf)
        | (refine brK_false ?_ ?_; (focus (simp only [List.length_nil, fx, rs_len] <;> omega)); conv => whnf)
        | ((refine brK_of (fun h => ?_) (fun h => ?_)) <;> (have h2 := h; (try simp only [List.length_nil, fx, rs_len] at h2); conv => whnf))
        | (refine reqK_of ?_ ?_; (focus (first | decide | omega | assumption | (simp only [List.length_nil, fx, rs_len] <;> omega) | (simp [keyNew, sameKey, kEq] <;> omega))); conv => whnf)
        | (refine reqK_of ?_ ?_; rotate_left; (conv => whnf); rotate_left)
        | (refine nth_us ?_ ?_ ?_; (focus (first | omega | (simp only [List.length_nil, fx, rs_len] <;> omega))); (focus (first | omega | (simp only [List.length_nil, fx, rs_len] <;> omega))); conv => whnf)
        | (refine nth_is ?_ ?_ ?_; (focus (first | omega | (simp only [List.length_nil, fx, rs_len] <;> omega))); (focus (first | omega | (simp only [List.length_nil, fx, rs_len] <;> omega))); conv => whnf)
        | (refine nth_bs ?_ ?_ ?_; (focus (first | omega | (simp only [List.length_nil, fx, rs_len] <;> omega))); (focus (first | omega | (simp only [List.length_nil, fx, rs_len] <;> omega))); conv => whnf))
      rw [rowsOf_rs, hPut_pL]
      conv => whnf
      repeat' (first
        | (refine brK_true rfl ?_; conv => whnf)
        | (refine brK_false rfl ?_; conv => whnf)
        | (refine brK_true (by assumption) ?_; conv => whnf)
        | (refine brK_false (by assumption) ?_; conv => whnf)
        | (refine brK_true ?_ ?_; (focus (simp only [List.length_nil, fx, rs_len] <;> omega)); conv => whnf)
        | (refine brK_false ?_ ?_; (focus (simp only [List.length_nil, fx, rs_len] <;> omega)); conv => whnf)
        | ((refine brK_of (fun h => ?_) (fun h => ?_)) <;> (have h2 := h; (try simp only [List.length_nil, fx, rs_len] at h2); conv => whnf))
        | (refine reqK_of ?_ ?_; (focus (first | decide | omega | assumption | (simp only [List.length_nil, fx, rs_len] <;> omega) | (simp [keyNew, sameKey, kEq] <;> omega))); conv => whnf)
        | (refine reqK_of ?_ ?_; rotate_left; (conv => whnf); rotate_left)
        | (refine nth_us ?_ ?_ ?_; (focus (first | omega | (simp only [List.length_nil, fx, rs_len] <;> omega))); (focus (first | omega | (simp only [List.length_nil, fx, rs_len] <;> omega))); conv => whnf)
        | (refine nth_is ?_ ?_ ?_; (focus (first | omega | (simp only [List.length_nil, fx, rs_len] <;> omega))); (focus (first | omega | (simp only [List.length_nil, fx, rs_len] <;> omega))); conv => whnf)
        | (refine nth_bs ?_ ?_ ?_; (focus (first | omega | (simp only [List.length_nil, fx, rs_len] <;> omega))); (focus (first | omega | (simp only [List.length_nil, fx, rs_len] <;> omega))); conv => whnf))
      rw [rowsOf_rs, hPut_pL]
      conv => whnf
      repeat' (first
        | (refine brK_true rfl ?_; conv => whnf)
        | (refine brK_false rfl ?_; conv => whnf)
        | (refine brK_true (by assumption) ?_; conv => whnf)
        | (refine brK_false (by assumption) ?_; conv => whnf)
        | (refine brK_true ?_ ?_; (focus (simp only [List.length_nil, fx, rs_len] <;> omega)); conv => whnf)
        | (refine brK_false ?_ ?_; (focus (simp only [List.length_nil, fx, rs_len] <;> omega)); conv => whnf)
        | ((refine brK_of (fun h => ?_) (fun h => ?_)) <;> (have h2 := h; (try simp only [List.length_nil, fx, rs_len] at h2); conv => whnf))
        | (refine reqK_of ?_ ?_; (focus (first | decide | omega | assumption | (simp only [List.length_nil, fx, rs_len] <;> omega) | (simp [keyNew, sameKey, kEq] <;> omega))); conv => whnf)
        | (refine reqK_of ?_ ?_; rotate_left; (conv => whnf); rotate_left)
        | (refine nth_us ?_ ?_ ?_; (focus (first | omega | (simp only [List.length_nil, fx, rs_len] <;> omega))); (focus (first | omega | (simp only [List.length_nil, fx, rs_len] <;> omega))); conv => whnf)
        | (refine nth_is ?_ ?_ ?_; (focus (first | omega | (simp only [List.length_nil, fx, rs_len] <;> omega))); (focus (first | omega | (simp only [List.length_nil, fx, rs_len] <;> omega))); conv => whnf)
        | (refine nth_bs ?_ ?_ ?_; (focus (first | omega | (simp only [List.length_nil, fx, rs_len] <;> omega))); (focus (first | omega | (simp only [List.length_nil, fx, rs_len] <;> omega))); conv => whnf))
      all_goals first
        | exact congrArg T.bool hs1
        | (exfalso; exact he ⟨by assumption, by assumption⟩)
open Classical in
noncomputable def c14 : List T → Ans
  | [.agg [.int .i64 k, .list 1 xs], .int .u8 o, .int .u8 s, .int .u8 p, .int .u8 q, .int .u8 v, .int .u8 w] => .req (IsH xs ∧ U8 o ∧ U8 s ∧ U8 p ∧ U8 q ∧ U8 v ∧ U8 w) (.bool true)
  | _ => .no
theorem got14 {vs : List T} {x : T} (h : Got (c14 vs) x) : FnOk Tryd.prog tgl 14 vs x := by
  unfold c14 at h
  split at h
  · obtain ⟨hq, e⟩ := got_req h; rw [e]; exact ok14 _ _ _ _ _ _ _ _ hq
  · exact (got_no h).elim
theorem nogl14 (vs : List T) (p : Prop) (d : Decidable p) (sz : Nat) (xs : List T) (h : c14 vs = @Ans.gl p d sz xs) : False := by
  unfold c14 at h
  split at h <;> cases h
theorem pk14 (vs : List T) (p : Prop) (d : Decidable p) (x : T) (h : c14 vs = @Ans.pk p d x) (hp : p) : FnOk Tryd.prog tgl 14 vs x := by
  unfold c14 at h
  split at h
  · cases h
  · cases h
end Go.Nx
end
section
set_option linter.unusedVariables false
set_option linter.unusedSimpArgs false
set_option maxRecDepth 20000
set_option maxHeartbeats 4000000
namespace Go.Nx
open Go Go.RowKit Go.Proofs

def hNew (n : Int) (L : List (List Int)) : List (List Int) := L ++ [List.replicate n.toNat 0]
theorem al_bad {n most : Int} {L : List (List Int)} (h : hRight n L = false) : hAl n L most = .tup [.agg [.int .i64 n, .list 1 (rs L)], .int .i64 0, .int .i64 1] := if_neg (by rw [h]; decide)
theorem al_full {n most : Int} {L : List (List Int)} (h : hRight n L = true) (h2 : ¬ ((L.length : Int) < most ∧ L.length < 64)) : hAl n L most = .tup [.agg [.int .i64 n, .list 1 (rs L)], .int .i64 0, .int .i64 4] := by
  unfold hAl; rw [if_pos h, if_neg h2]
theorem al_new {n most : Int} {L : List (List Int)} (h : hRight n L = true) (h2 : (L.length : Int) < most ∧ L.length < 64) : hAl n L most = .tup [.agg [.int .i64 n, .list 1 (rs (hNew n L))], .int .i64 ((L.length : Int) + 1), .int .i64 0] := by
  unfold hAl; rw [if_pos h, if_pos h2]; rfl
theorem new_len (n : Int) (L : List (List Int)) : (hNew n L).length = L.length + 1 := by unfold hNew; simp
theorem new_right {n : Int} {L : List (List Int)} (h : hRight n L = true) (h2 : L.length < 64) : hRight n (hNew n L) = true := by
  obtain ⟨⟨h3, h4, h5⟩, h6⟩ := hRight_iff.1 h
  refine hRight_iff.2 ⟨⟨h3, h4, by rw [new_len]; omega⟩, fun l hl => ?_⟩
  rw [new_len]
  rcases List.mem_append.1 hl with k | k
  · obtain ⟨k1, k2⟩ := h6 l k
    exact ⟨k1, fun v hv => by have := k2 v hv; omega⟩
  · rw [List.mem_singleton] at k; subst k
    refine ⟨by rw [List.length_replicate]; omega, fun v hv => ?_⟩
    obtain rfl := (List.mem_replicate.1 hv).2
    omega
theorem new_row {n : Int} {L : List (List Int)} {i : Nat} (h : i < L.length) : row (hNew n L) ((i : Int) + 1) = row L ((i : Int) + 1) := by
  rw [row_at (by rw [new_len]; omega), row_at h]
  unfold hNew
  rw [List.getElem_append_left h]
theorem new_row0 {n : Int} {L : List (List Int)} : row (hNew n L) ((L.length : Int) + 1) = List.replicate n.toNat 0 := by
  rw [row_at (by rw [new_len]; omega)]
  unfold hNew
  simp
theorem new_get {n : Int} {L : List (List Int)} (h : hRight n L = true) {i k : Nat} (hi : i ≤ L.length) (hk : (k : Int) < n) :
    hThere (hNew n L) ((i : Int) + 1) (k : Int) = true ∧ hGet L ((i : Int) + 1) (k : Int) = hGet (hNew n L) ((i : Int) + 1) (k : Int) := by
  obtain ⟨⟨h3, h4, h5⟩, h6⟩ := hRight_iff.1 h
  by_cases e : i = L.length
  · subst e
    have t : hThere (hNew n L) ((L.length : Int) + 1) (k : Int) = true := hThere_iff.2 ⟨by omega, by rw [new_len]; omega, by omega, by rw [new_row0, List.length_replicate]; omega⟩
    refine ⟨t, ?_⟩
    unfold hGet
    rw [if_pos t, if_neg, new_row0]
    · unfold at0; simp [List.getElem?_replicate]; split <;> rfl
    · intro h7; have := (hThere_iff.1 h7).2.1; omega
  · have hlt : i < L.length := by omega
    have hrow := (h6 (row L ((i : Int) + 1)) (row_mem (by omega) (by omega))).1
    have t : hThere (hNew n L) ((i : Int) + 1) (k : Int) = true := hThere_iff.2 ⟨by omega, by rw [new_len]; omega, by omega, by rw [new_row hlt]; omega⟩
    have t2 : hThere L ((i : Int) + 1) (k : Int) = true := hThere_iff.2 ⟨by omega, by omega, by omega, by omega⟩
    refine ⟨t, ?_⟩
    unfold hGet
    rw [if_pos t, if_pos t2, new_row hlt]
theorem neqI_self (a : Int) : eqI a a = true := by rw [eqI_def]; exact beq_self_eq_true a
theorem bool_eqI (a : Int) : T.bool (eqI a a) = T.bool true := congrArg T.bool (neqI_self a)
theorem i64_of {a : Int} (h : 0 ≤ a) (h2 : a ≤ 1048576) : I64 a := by unfold I64; omega
theorem ok11 (n m : Int) (xs : List T) (hq : IsH xs ∧ U8 m) : FnOk Tryd.prog tgl 11 [.agg [.int .i64 n, .list 1 xs], .int .u8 m] (.bool true) := by
  refine fn_ok (Γ := H21) env_H21 Tryd.func11 low11 ?_
  obtain ⟨⟨L, rfl, hl, hL⟩, hm⟩ := hq
  have hq0 : IsH (rs L) := ⟨L, rfl, hl, hL⟩
  unfold U8 at hm
  have hwm : IntKind.i64.wrap m = m := wrap_i64 ⟨by omega, by omega⟩
  have r0 : IsH (rs L) ∧ I64 (IntKind.i64.wrap m) := ⟨hq0, wr64 _⟩
  have r1 : IsH (rs L) ∧ IsH (rs L) := ⟨hq0, hq0⟩
  cases hr : hRight n L
  · have hr' : hRight n (rowsOf (rs L)) = false := by rw [rowsOf_rs]; exact hr
    have ha := al_bad (most := IntKind.i64.wrap m) hr
    conv => whnf
    repeat' (first
      | (refine brK_true rfl ?_; conv => whnf)
      | (refine brK_false rfl ?_; conv => whnf)
      | (refine brK_true (by assumption) ?_; conv => whnf)
      | (refine brK_false (by assumption) ?_; conv => whnf)
      | (refine brK_true ?_ ?_; (focus (simp only [List.length_nil, fx, rs_len, hr'] <;> omega)); conv => whnf)
      | (refine brK_false ?_ ?_; (focus (simp only [List.length_nil, fx, rs_len, hr'] <;> omega)); conv => whnf)
      | ((refine brK_of (fun h => ?_) (fun h => ?_)) <;> (have h2 := h; (try simp only [List.length_nil, fx, rs_len, hr'] at h2); conv => whnf))
      | (refine reqK_of ?_ ?_; (focus (first | decide | omega | assumption | (simp only [List.length_nil, fx, rs_len, hr'] <;> omega) | (simp [keyNew, sameKey, kEq] <;> omega))); conv => whnf)
      | (refine reqK_of ?_ ?_; rotate_left; (conv => whnf); rotate_left)
      | (refine nth_us ?_ ?_ ?_; (focus (first | omega | (simp only [List.length_nil, fx, rs_len, hr'] <;> omega))); (focus (first | omega | (simp only [List.length_nil, fx, rs_len, hr'] <;> omega))); conv => whnf)
      | (refine nth_is ?_ ?_ ?_; (focus (first | omega | (simp only [List.length_nil, fx, rs_len, hr'] <;> omega))); (focus (first | omega | (simp only [List.length_nil, fx, rs_len, hr'] <;> omega))); conv => whnf)
      | (refine nth_bs ?_ ?_ ?_; (focus (first | omega | (simp only [List.length_nil, fx, rs_len, hr'] <;> omega))); (focus (first | omega | (simp only [List.length_nil, fx, rs_len, hr'] <;> omega))); conv => whnf))
    rw [rowsOf_rs, ha]
    conv => whnf
    repeat' (first
      | (refine brK_true rfl ?_; conv => whnf)
      | (refine brK_false rfl ?_; conv => whnf)
      | (refine brK_true (by assumption) ?_; conv => whnf)
      | (refine brK_false (by assumption) ?_; conv => whnf)
      | (refine brK_true ?_ ?_; (focus (simp only [List.length_nil, fx, rs_len, hr'] <;> omega)); conv => whnf)
      | (refine brK_false ?_ ?_; (focus (simp only [List.length_nil, fx, rs_len, hr'] <;> omega)); conv => whnf)
      | ((refine brK_of (fun h => ?_) (fun h => ?_)) <;> (have h2 := h; (try simp only [List.length_nil, fx, rs_len, hr'] at h2); conv => whnf))
      | (refine reqK_of ?_ ?_; (focus (first | decide | omega | assumption | (simp only [List.length_nil, fx, rs_len, hr'] <;> omega) | (simp [keyNew, sameKey, kEq] <;> omega))); conv => whnf)
      | (refine reqK_of ?_ ?_; rotate_left; (conv => whnf); rotate_left)
      | (refine nth_us ?_ ?_ ?_; (focus (first | omega | (simp only [List.length_nil, fx, rs_len, hr'] <;> omega))); (focus (first | omega | (simp only [List.length_nil, fx, rs_len, hr'] <;> omega))); conv => whnf)
      | (refine nth_is ?_ ?_ ?_; (focus (first | omega | (simp only [List.length_nil, fx, rs_len, hr'] <;> omega))); (focus (first | omega | (simp only [List.length_nil, fx, rs_len, hr'] <;> omega))); conv => whnf)
      | (refine nth_bs ?_ ?_ ?_; (focus (first | omega | (simp only [List.length_nil, fx, rs_len, hr'] <;> omega))); (focus (first | omega | (simp only [List.length_nil, fx, rs_len, hr'] <;> omega))); conv => whnf))
    all_goals exact bool_eqI _
  · have hr' : hRight n (rowsOf (rs L)) = true := by rw [rowsOf_rs]; exact hr
    obtain ⟨⟨h3, h4, h5⟩, h6⟩ := hRight_iff.1 hr
    by_cases hf : (L.length : Int) < IntKind.i64.wrap m ∧ L.length < 64
    · have ha := al_new hr hf
      rw [hwm] at hf
      have hn := new_right hr hf.2
      have hni := right_isH hn
      have hn' : hRight n (rowsOf (rs (hNew n L))) = true := by rw [rowsOf_rs]; exact hn
      have hnl := new_len n L
      have hwl : IntKind.i64.wrap ((L.length : Int) + 1) = (L.length : Int) + 1 := wrap_i64 ⟨by omega, by omega⟩
      conv => whnf
      repeat' (first
        | (refine brK_true rfl ?_; conv => whnf)
        | (refine brK_false rfl ?_; conv => whnf)
        | (refine brK_true (by assumption) ?_; conv => whnf)
        | (refine brK_false (by assumption) ?_; conv => whnf)
        | (refine brK_true ?_ ?_; (focus (simp only [List.length_nil, fx, rs_len, hr'] <;> omega)); conv => whnf)
        | (refine brK_false ?_ ?_; (focus (simp only [List.length_nil, fx, rs_len, hr'] <;> omega)); conv => whnf)
        | ((refine brK_of (fun h => ?_) (fun h => ?_)) <;> (have h2 := h; (try simp only [List.length_nil, fx, rs_len, hr'] at h2); conv => whnf))
        | (refine reqK_of ?_ ?_; (focus (first | decide | omega | assumption | (simp only [List.length_nil, fx, rs_len, hr'] <;> omega) | (simp [keyNew, sameKey, kEq] <;> omega))); conv => whnf)
        | (refine reqK_of ?_ ?_; rotate_left; (conv => whnf); rotate_left)
        | (refine nth_us ?_ ?_ ?_; (focus (first | omega | (simp only [List.length_nil, fx, rs_len, hr'] <;> omega))); (focus (first | omega | (simp only [List.length_nil, fx, rs_len, hr'] <;> omega))); conv => whnf)
        | (refine nth_is ?_ ?_ ?_; (focus (first | omega | (simp only [List.length_nil, fx, rs_len, hr'] <;> omega))); (focus (first | omega | (simp only [List.length_nil, fx, rs_len, hr'] <;> omega))); conv => whnf)
        | (refine nth_bs ?_ ?_ ?_; (focus (first | omega | (simp only [List.length_nil, fx, rs_len, hr'] <;> omega))); (focus (first | omega | (simp only [List.length_nil, fx, rs_len, hr'] <;> omega))); conv => whnf))
      rw [rowsOf_rs, ha]
      conv => whnf
      repeat' (first
        | (refine brK_true rfl ?_; conv => whnf)
        | (refine brK_false rfl ?_; conv => whnf)
        | (refine brK_true (by assumption) ?_; conv => whnf)
        | (refine brK_false (by assumption) ?_; conv => whnf)
        | (refine brK_true ?_ ?_; (focus (simp only [List.length_nil, fx, rs_len, hr', hwm] <;> omega)); conv => whnf)
        | (refine brK_false ?_ ?_; (focus (simp only [List.length_nil, fx, rs_len, hr', hwm] <;> omega)); conv => whnf)
        | ((refine brK_of (fun h => ?_) (fun h => ?_)) <;> (have h2 := h; (try simp only [List.length_nil, fx, rs_len, hr', hwm] at h2); conv => whnf))
        | (refine reqK_of ?_ ?_; (focus (first | decide | omega | assumption | (simp only [List.length_nil, fx, rs_len, hr', hwm] <;> omega) | (simp [keyNew, sameKey, kEq] <;> omega))); conv => whnf)
        | (refine reqK_of ?_ ?_; rotate_left; (conv => whnf); rotate_left)
        | (refine nth_us ?_ ?_ ?_; (focus (first | omega | (simp only [List.length_nil, fx, rs_len, hr', hwm] <;> omega))); (focus (first | omega | (simp only [List.length_nil, fx, rs_len, hr', hwm] <;> omega))); conv => whnf)
        | (refine nth_is ?_ ?_ ?_; (focus (first | omega | (simp only [List.length_nil, fx, rs_len, hr', hwm] <;> omega))); (focus (first | omega | (simp only [List.length_nil, fx, rs_len, hr', hwm] <;> omega))); conv => whnf)
        | (refine nth_bs ?_ ?_ ?_; (focus (first | omega | (simp only [List.length_nil, fx, rs_len, hr', hwm] <;> omega))); (focus (first | omega | (simp only [List.length_nil, fx, rs_len, hr', hwm] <;> omega))); conv => whnf))
      refine loopUp [] [.kill 11, .kill 12, .kill 13, .kill 14, .kill 15, .kill 60, .kill 61, .kill 62, .kill 63, .kill 64, .kill 65, .kill 66, .kill 67, .kill 68, .kill 69, .kill 70, .kill 71, .kill 72, .kill 73, .kill 74, .kill 75, .kill 76, .kill 77, .kill 78, .kill 79, .kill 80, .kill 81, .kill 82, .kill 83, .kill 84, .kill 85, .kill 86, .kill 87, .kill 88, .kill 89, .kill 90, .kill 91, .kill 92, .kill 93] (fun k : Nat => [(10, .t (.int .i64 (k : Int)))]) (fun _ => []) (fun k => k ≤ L.length + 1) (fun k => L.length + 1 - k) 0 (Nat.zero_le _) ?_
      conv => whnf
      refine ⟨⟨rfl, rfl⟩, fun i hi C hC => ?_⟩
      have hw : IntKind.i64.wrap ((i : Int) + 1) = (i : Int) + 1 := wrap_i64 ⟨by omega, by omega⟩
      conv => whnf
      repeat' (first
        | (refine brK_true rfl ?_; conv => whnf)
        | (refine brK_false rfl ?_; conv => whnf)
        | (refine brK_true (by assumption) ?_; conv => whnf)
        | (refine brK_false (by assumption) ?_; conv => whnf)
        | (refine brK_true ?_ ?_; (focus (simp only [List.length_nil, fx, rs_len] <;> omega)); conv => whnf)
        | (refine brK_false ?_ ?_; (focus (simp only [List.length_nil, fx, rs_len] <;> omega)); conv => whnf)
        | ((refine brK_of (fun h => ?_) (fun h => ?_)) <;> (have h2 := h; (try simp only [List.length_nil, fx, rs_len] at h2); conv => whnf))
        | (refine reqK_of ?_ ?_; (focus (first | decide | omega | assumption | (simp only [List.length_nil, fx, rs_len] <;> omega) | (simp [keyNew, sameKey, kEq] <;> omega))); conv => whnf)
        | (refine reqK_of ?_ ?_; rotate_left; (conv => whnf); rotate_left)
        | (refine nth_us ?_ ?_ ?_; (focus (first | omega | (simp only [List.length_nil, fx, rs_len] <;> omega))); (focus (first | omega | (simp only [List.length_nil, fx, rs_len] <;> omega))); conv => whnf)
        | (refine nth_is ?_ ?_ ?_; (focus (first | omega | (simp only [List.length_nil, fx, rs_len] <;> omega))); (focus (first | omega | (simp only [List.length_nil, fx, rs_len] <;> omega))); conv => whnf)
        | (refine nth_bs ?_ ?_ ?_; (focus (first | omega | (simp only [List.length_nil, fx, rs_len] <;> omega))); (focus (first | omega | (simp only [List.length_nil, fx, rs_len] <;> omega))); conv => whnf))
      · refine loopUp [] [.kill 12, .kill 13, .kill 14, .kill 15, .kill 65, .kill 66, .kill 67, .kill 68, .kill 69, .kill 70, .kill 71, .kill 72, .kill 73, .kill 74, .kill 75, .kill 76, .kill 77, .kill 78, .kill 79, .kill 80, .kill 81, .kill 82, .kill 83, .kill 84, .kill 85, .kill 86, .kill 87, .kill 88, .kill 89, .kill 90, .kill 91, .kill 92, .kill 93] (fun j : Nat => [(11, .t (.int .i64 (j : Int)))]) (fun _ => []) (fun j => (j : Int) ≤ n) (fun j => n.toNat - j) 0 (by omega) ?_
        conv => whnf
        refine ⟨⟨rfl, rfl⟩, fun j hj C' hC' => ?_⟩
        have hwj : IntKind.i64.wrap ((j : Int) + 1) = (j : Int) + 1 := wrap_i64 ⟨by omega, by omega⟩
        have r2 : IsH (rs L) ∧ I64 (IntKind.i64.wrap ((i : Int) + 1)) ∧ I64 (j : Int) := ⟨hq0, wr64 _, i64_of (by omega) (by omega)⟩
        have r3 : IsH (rs (hNew n L)) ∧ I64 (IntKind.i64.wrap ((i : Int) + 1)) ∧ I64 (j : Int) := ⟨hni, wr64 _, i64_of (by omega) (by omega)⟩
        by_cases hjn : (j : Int) < n
        · obtain ⟨g1, g2⟩ := new_get hr (i := i) (k := j) (by omega) hjn
          have g3 : hThere (rowsOf (rs (hNew n L))) (IntKind.i64.wrap ((i : Int) + 1)) (j : Int) = true := by rw [rowsOf_rs, hw]; exact g1
          have g4 : eqI (hGet (rowsOf (rs L)) (IntKind.i64.wrap ((i : Int) + 1)) (j : Int)) (hGet (rowsOf (rs (hNew n L))) (IntKind.i64.wrap ((i : Int) + 1)) (j : Int)) = true := by rw [rowsOf_rs, rowsOf_rs, hw, g2]; exact neqI_self _
          conv => whnf
          repeat' (first
            | (refine brK_true rfl ?_; conv => whnf)
            | (refine brK_false rfl ?_; conv => whnf)
            | (refine brK_true (by assumption) ?_; conv => whnf)
            | (refine brK_false (by assumption) ?_; conv => whnf)
            | (refine brK_true ?_ ?_; (focus (simp only [List.length_nil, fx, rs_len] <;> omega)); conv => whnf)
            | (refine brK_false ?_ ?_; (focus (simp only [List.length_nil, fx, rs_len] <;> omega)); conv => whnf)
            | ((refine brK_of (fun h => ?_) (fun h => ?_)) <;> (have h2 := h; (try simp only [List.length_nil, fx, rs_len] at h2); conv => whnf))
            | (refine reqK_of ?_ ?_; (focus (first | decide | omega | assumption | (simp only [List.length_nil, fx, rs_len] <;> omega) | (simp [keyNew, sameKey, kEq] <;> omega))); conv => whnf)
            | (refine reqK_of ?_ ?_; rotate_left; (conv => whnf); rotate_left)
            | (refine nth_us ?_ ?_ ?_; (focus (first | omega | (simp only [List.length_nil, fx, rs_len] <;> omega))); (focus (first | omega | (simp only [List.length_nil, fx, rs_len] <;> omega))); conv => whnf)
            | (refine nth_is ?_ ?_ ?_; (focus (first | omega | (simp only [List.length_nil, fx, rs_len] <;> omega))); (focus (first | omega | (simp only [List.length_nil, fx, rs_len] <;> omega))); conv => whnf)
            | (refine nth_bs ?_ ?_ ?_; (focus (first | omega | (simp only [List.length_nil, fx, rs_len] <;> omega))); (focus (first | omega | (simp only [List.length_nil, fx, rs_len] <;> omega))); conv => whnf))
          all_goals first
            | (refine loopC (hC' (j + 1) (by omega) (by omega)) ?_
               rw [hwj, Int.natCast_succ]
               rfl)
            | (exfalso; simp_all; done)
            | skip
        · conv => whnf
          repeat' (first
            | (refine brK_true rfl ?_; conv => whnf)
            | (refine brK_false rfl ?_; conv => whnf)
            | (refine brK_true (by assumption) ?_; conv => whnf)
            | (refine brK_false (by assumption) ?_; conv => whnf)
            | (refine brK_true ?_ ?_; (focus (simp only [List.length_nil, fx, rs_len] <;> omega)); conv => whnf)
            | (refine brK_false ?_ ?_; (focus (simp only [List.length_nil, fx, rs_len] <;> omega)); conv => whnf)
            | ((refine brK_of (fun h => ?_) (fun h => ?_)) <;> (have h2 := h; (try simp only [List.length_nil, fx, rs_len] at h2); conv => whnf))
            | (refine reqK_of ?_ ?_; (focus (first | decide | omega | assumption | (simp only [List.length_nil, fx, rs_len] <;> omega) | (simp [keyNew, sameKey, kEq] <;> omega))); conv => whnf)
            | (refine reqK_of ?_ ?_; rotate_left; (conv => whnf); rotate_left)
            | (refine nth_us ?_ ?_ ?_; (focus (first | omega | (simp only [List.length_nil, fx, rs_len] <;> omega))); (focus (first | omega | (simp only [List.length_nil, fx, rs_len] <;> omega))); conv => whnf)
            | (refine nth_is ?_ ?_ ?_; (focus (first | omega | (simp only [List.length_nil, fx, rs_len] <;> omega))); (focus (first | omega | (simp only [List.length_nil, fx, rs_len] <;> omega))); conv => whnf)
            | (refine nth_bs ?_ ?_ ?_; (focus (first | omega | (simp only [List.length_nil, fx, rs_len] <;> omega))); (focus (first | omega | (simp only [List.length_nil, fx, rs_len] <;> omega))); conv => whnf))
          all_goals first
            | (refine loopC (hC (i + 1) (by omega) (by omega)) ?_
               rw [hw, Int.natCast_succ]
               rfl)
            | skip
      · have e0 : eqI 0 0 = true := eqI_00
        have e1 : eqI ((L.length : Int) + 1) (IntKind.i64.wrap ((L.length : Int) + 1)) = true := by rw [hwl]; exact neqI_self _
        have e2 : eqI (lenL (rs (hNew n L)) 0 none) (IntKind.i64.wrap ((L.length : Int) + 1)) = true := by
          rw [hwl, lenL_eq, rs_len, hnl, Int.natCast_succ]; exact neqI_self _
        conv => whnf
        repeat' (first
          | (refine brK_true rfl ?_; conv => whnf)
          | (refine brK_false rfl ?_; conv => whnf)
          | (refine brK_true (by assumption) ?_; conv => whnf)
          | (refine brK_false (by assumption) ?_; conv => whnf)
          | (refine brK_true ?_ ?_; (focus (simp only [List.length_nil, fx, rs_len] <;> omega)); conv => whnf)
          | (refine brK_false ?_ ?_; (focus (simp only [List.length_nil, fx, rs_len] <;> omega)); conv => whnf)
          | ((refine brK_of (fun h => ?_) (fun h => ?_)) <;> (have h2 := h; (try simp only [List.length_nil, fx, rs_len] at h2); conv => whnf))
          | (refine reqK_of ?_ ?_; (focus (first | decide | omega | assumption | (simp only [List.length_nil, fx, rs_len] <;> omega) | (simp [keyNew, sameKey, kEq] <;> omega))); conv => whnf)
          | (refine reqK_of ?_ ?_; rotate_left; (conv => whnf); rotate_left)
          | (refine nth_us ?_ ?_ ?_; (focus (first | omega | (simp only [List.length_nil, fx, rs_len] <;> omega))); (focus (first | omega | (simp only [List.length_nil, fx, rs_len] <;> omega))); conv => whnf)
          | (refine nth_is ?_ ?_ ?_; (focus (first | omega | (simp only [List.length_nil, fx, rs_len] <;> omega))); (focus (first | omega | (simp only [List.length_nil, fx, rs_len] <;> omega))); conv => whnf)
          | (refine nth_bs ?_ ?_ ?_; (focus (first | omega | (simp only [List.length_nil, fx, rs_len] <;> omega))); (focus (first | omega | (simp only [List.length_nil, fx, rs_len] <;> omega))); conv => whnf))
        all_goals exact congrArg T.bool hn'
    · have ha := al_full hr hf
      rw [hwm] at hf
      conv => whnf
      repeat' (first
        | (refine brK_true rfl ?_; conv => whnf)
        | (refine brK_false rfl ?_; conv => whnf)
        | (refine brK_true (by assumption) ?_; conv => whnf)
        | (refine brK_false (by assumption) ?_; conv => whnf)
        | (refine brK_true ?_ ?_; (focus (simp only [List.length_nil, fx, rs_len, hr'] <;> omega)); conv => whnf)
        | (refine brK_false ?_ ?_; (focus (simp only [List.length_nil, fx, rs_len, hr'] <;> omega)); conv => whnf)
        | ((refine brK_of (fun h => ?_) (fun h => ?_)) <;> (have h2 := h; (try simp only [List.length_nil, fx, rs_len, hr'] at h2); conv => whnf))
        | (refine reqK_of ?_ ?_; (focus (first | decide | omega | assumption | (simp only [List.length_nil, fx, rs_len, hr'] <;> omega) | (simp [keyNew, sameKey, kEq] <;> omega))); conv => whnf)
        | (refine reqK_of ?_ ?_; rotate_left; (conv => whnf); rotate_left)
        | (refine nth_us ?_ ?_ ?_; (focus (first | omega | (simp only [List.length_nil, fx, rs_len, hr'] <;> omega))); (focus (first | omega | (simp only [List.length_nil, fx, rs_len, hr'] <;> omega))); conv => whnf)
        | (refine nth_is ?_ ?_ ?_; (focus (first | omega | (simp only [List.length_nil, fx, rs_len, hr'] <;> omega))); (focus (first | omega | (simp only [List.length_nil, fx, rs_len, hr'] <;> omega))); conv => whnf)
        | (refine nth_bs ?_ ?_ ?_; (focus (first | omega | (simp only [List.length_nil, fx, rs_len, hr'] <;> omega))); (focus (first | omega | (simp only [List.length_nil, fx, rs_len, hr'] <;> omega))); conv => whnf))
      rw [rowsOf_rs, ha]
      conv => whnf
      repeat' (first
        | (refine brK_true rfl ?_; conv => whnf)
        | (refine brK_false rfl ?_; conv => whnf)
        | (refine brK_true (by assumption) ?_; conv => whnf)
        | (refine brK_false (by assumption) ?_; conv => whnf)
        | (refine brK_true ?_ ?_; (focus (simp only [List.length_nil, fx, rs_len, hr', hwm] <;> omega)); conv => whnf)
        | (refine brK_false ?_ ?_; (focus (simp only [List.length_nil, fx, rs_len, hr', hwm] <;> omega)); conv => whnf)
        | ((refine brK_of (fun h => ?_) (fun h => ?_)) <;> (have h2 := h; (try simp only [List.length_nil, fx, rs_len, hr', hwm] at h2); conv => whnf))
        | (refine reqK_of ?_ ?_; (focus (first | decide | omega | assumption | (simp only [List.length_nil, fx, rs_len, hr', hwm] <;> omega) | (simp [keyNew, sameKey, kEq] <;> omega))); conv => whnf)
        | (refine reqK_of ?_ ?_; rotate_left; (conv => whnf); rotate_left)
        | (refine nth_us ?_ ?_ ?_; (focus (first | omega | (simp only [List.length_nil, fx, rs_len, hr', hwm] <;> omega))); (focus (first | omega | (simp only [List.length_nil, fx, rs_len, hr', hwm] <;> omega))); conv => whnf)
        | (refine nth_is ?_ ?_ ?_; (focus (first | omega | (simp only [List.length_nil, fx, rs_len, hr', hwm] <;> omega))); (focus (first | omega | (simp only [List.length_nil, fx, rs_len, hr', hwm] <;> omega))); conv => whnf)
        | (refine nth_bs ?_ ?_ ?_; (focus (first | omega | (simp only [List.length_nil, fx, rs_len, hr', hwm] <;> omega))); (focus (first | omega | (simp only [List.length_nil, fx, rs_len, hr', hwm] <;> omega))); conv => whnf))
      all_goals first
        | (exfalso; omega)
        | (exfalso; simp_all; done)
        | exact congrArg T.bool (hSame_self _ _)
open Classical in
noncomputable def c11 : List T → Ans
  | [.agg [.int .i64 n, .list 1 xs], .int .u8 m] => .req (IsH xs ∧ U8 m) (.bool true)
  | _ => .no
theorem got11 {vs : List T} {x : T} (h : Got (c11 vs) x) : FnOk Tryd.prog tgl 11 vs x := by
  unfold c11 at h
  split at h
  · obtain ⟨hq, e⟩ := got_req h; rw [e]; exact ok11 _ _ _ hq
  · exact (got_no h).elim
theorem nogl11 (vs : List T) (p : Prop) (d : Decidable p) (sz : Nat) (xs : List T) (h : c11 vs = @Ans.gl p d sz xs) : False := by
  unfold c11 at h
  split at h <;> cases h
theorem pk11 (vs : List T) (p : Prop) (d : Decidable p) (x : T) (h : c11 vs = @Ans.pk p d x) (hp : p) : FnOk Tryd.prog tgl 11 vs x := by
  unfold c11 at h
  split at h
  · cases h
  · cases h
end Go.Nx
end
