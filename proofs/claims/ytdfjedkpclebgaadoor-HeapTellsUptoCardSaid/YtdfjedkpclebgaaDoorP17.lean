/-
  A part of the machine, and of what is walked.
-/
import Derived.Test.YtdfjedkpclebgaaDoorP16
import Derived.WalkKit
import Derived.Deep.RegionHeldLaw
import Derived.Deep.RegionLaw
import Derived.Deep.AppendLies
import Derived.Maps.AppendAt
import Derived.RangeFuncBox
import Derived.Deep.Onto
import Derived.IntWalk
section
set_option linter.unusedVariables false
set_option linter.unusedSimpArgs false
set_option maxRecDepth 20000
set_option maxHeartbeats 0
namespace Go.Nx
open Go Go.RowKit Go.Shelf Go.Proofs

def Rows (W : World) (base : Nat) (hs : List Value) (K : List (List Int)) : Prop :=
  hs.length = K.length ∧ (∀ (j : Nat) (h : Value) (l : List Int), hs[j]? = some h → K[j]? = some l → W.ownsRow base 3 1 h l.length (l.map (Value.int .i64))) ∧
  ∀ (j k : Nat) (h h' : Value), j ≠ k → hs[j]? = some h → hs[k]? = some h' → h.ownBlock = none ∨ h.ownBlock ≠ h'.ownBlock
def CopI (B : Nat) (n : Int) (L : List (List Int)) (hd : Value) (w W : World) (i : Nat) : Prop :=
  ∃ (v : Value) (hs : List Value), i ≤ L.length ∧ W.cell? ⟨B, 0, none⟩ = some (.int .i64 n) ∧ W.cell? ⟨B, 1, none⟩ = some hd ∧ W.cell? ⟨B + 1, 0, none⟩ = some (.int .i64 0) ∧ W.cell? ⟨B + 1, 1, none⟩ = some (.slice none 0 0) ∧ (∀ j, W.frozen? ⟨B + 1, j, none⟩ = false) ∧
    W.cell? ⟨B + 1 + 1, 0, none⟩ = some (.int .i64 n) ∧ W.cell? ⟨B + 1 + 1, 1, none⟩ = some v ∧ (∀ j, W.frozen? ⟨B + 1 + 1, j, none⟩ = false) ∧ W.ownsRow (B + 3) 39 1 v i hs ∧ Rows W (B + 3) hs (L.take i) ∧ Below B w W ∧ B + 3 ≤ W.heap.size
def RowV (w : World) (hv : Value) (l : List Int) : Prop := ∃ ao c, hv = .slice ao l.length c ∧ (l ≠ [] → ∃ b off, ao = some ⟨b, off, none⟩ ∧ b < w.heap.size ∧ ∀ (j : Nat) (u : Value), (l.map (Value.int .i64))[j]? = some u → w.cell? ⟨b, off + j, none⟩ = some u)
theorem RowV.below {w W : World} {B : Nat} {hv : Value} {l : List Int} (h : RowV w hv l) (hb : Below B w W) (hB : w.heap.size ≤ B) : RowV W hv l := by
  obtain ⟨ao, c, e, h2⟩ := h
  refine ⟨ao, c, e, fun hne => ?_⟩
  obtain ⟨b, off, e2, h3, h4⟩ := h2 hne
  exact ⟨b, off, e2, Nat.lt_of_lt_of_le h3 hb.size, fun j u hj => (hb.cell (p := ⟨b, off + j, none⟩) (show b < B by omega)).trans (h4 j u hj)⟩
theorem run_append_row {w : World} (base : Nat) (hbase : base ≤ w.heap.size) {hv : Value} {l : List Int} (hrow : RowV w hv l) (hlen : l.length ≤ 1048576) (ty : TypeId) :
    ∃ v' w', (Builtin.append_ #[39, 39] ty #[.slice none 0 0, hv]).run Tryd.prog w = .ok v' w' ∧ w'.ownsRow base 3 1 v' l.length (l.map (Value.int .i64)) ∧ w.grownBy w' none ∧ (v'.ownBlock = none ∨ v'.ownBlock = some w.heap.size) := by
  obtain ⟨i0, hi, hz0, hz1, hz2⟩ := info_parts infoI
  obtain ⟨ao, c, rfl, hne⟩ := hrow
  by_cases e : l = []
  · subst e
    refine ⟨.slice none 0 0, w, ?_, World.ownsRow_nil w base 3 1, ⟨rfl, rfl, rfl, Nat.le_refl _, fun _ _ _ => rfl⟩, .inl rfl⟩
    have h39 : Tryd.prog.underlying 39 = some (.slice 3) := Tryd.underlying39
    cases ao <;> simp [Builtin.append_, run_underlying h39, sizeOf, typeInfo, hi, Builtin.lenOf, Builtin.firstCells, loadCells, loadCellsFrom]
  · obtain ⟨b, off, rfl, _, hc⟩ := hne e
    obtain ⟨v', w', hr, h2, h3, _, h5⟩ := run_append_own_at (P := Tryd.prog) w base 39 ty 3 i0 (.int .i64 0) 1 8 Tryd.underlying39 hi hz0 hz1 hz2 rfl (by decide) (.slice none 0 0) 0 [] (World.ownsRow_nil w base 3 1) ⟨b, off, none⟩ l.length c (l.map (Value.int .i64)) (by simp)
      (fun j u hj => by
        have hadd : (⟨b, off, none⟩ : Addr).add j = ⟨b, off + j, none⟩ := by unfold Addr.add; split <;> simp_all
        rw [hadd]; exact hc j u hj) (fun u hu => by obtain ⟨n, _, rfl⟩ := List.mem_map.1 hu; rfl) (by unfold maxLen; omega) (by omega) hbase
    rw [Nat.zero_add] at h2
    exact ⟨v', w', hr, h2, h3, h5⟩
theorem step_append_row {ops : Array Oper} {o : Oper} {a : Act} {K : Act → World → Prop} {Q : Exit → Act → World → Prop} {E : Prop} {w : World} (hgd : o.guard = none) (s x : Operand)
    (ho : o.op = .call { callee := .builtin .append, args := #[s, x], argTypes := #[39, 39] }) (base : Nat) (hbase : base ≤ w.heap.size) (hs : a.eval s = .slice none 0 0) (hv : Value) (l : List Int) (hx : a.eval x = hv) (hrow : RowV w hv l) (hlen : l.length ≤ 1048576)
    (h : ∀ ao m c w', w'.ownsRow base 3 1 (.slice ao m c) l.length (l.map (Value.int .i64)) → w.grownBy w' none → ((Value.slice ao m c).ownBlock = none ∨ (Value.slice ao m c).ownBlock = some w.heap.size) → K (a.put o.dst (.slice ao m c)) w') :
    if Region.wanted o (yielded ops a.tmps) = true then Oper.wp Tryd.prog o a w K Q else E := by
  have hw : Region.wanted o (yielded ops a.tmps) = true := by simp [Region.wanted, hgd]
  rw [if_pos hw]
  obtain ⟨v', w', hr, h2, h3, h4⟩ := run_append_row base hbase hrow hlen o.type
  unfold Oper.wp
  simp [execOp, ho, resolve, invoke, builtin, hs, hx, hr, Result.andThen]
  obtain ⟨ao, m, c, rfl⟩ : ∃ ao m c, v' = .slice ao m c := by
    rcases h2.2 with ⟨rfl, _⟩ | ⟨g, cap, cur, rfl, _⟩
    · exact ⟨_, _, _, rfl⟩
    · exact ⟨_, _, _, rfl⟩
  exact h ao m c w' h2 h3 h4
theorem infoR39 : (Tryd.prog.info? 39).map (fun i => (i.zero, i.size, i.bytes)) = some (some (.slice none 0 0), 1, 24) := by kernel_rfl
theorem own_lt {W : World} {base size n : Nat} {e : TypeId} {v : Value} {xs : List Value} (h : W.ownsRow base e size v n xs) : v.ownBlock = none ∨ ∃ g, v.ownBlock = some g ∧ base ≤ g ∧ g < W.heap.size := by
  rcases h.2 with ⟨rfl, _⟩ | ⟨g, cg, cur, rfl, hg, hh, _⟩
  · exact .inl rfl
  · exact .inr ⟨g, rfl, hg, (Array.getElem?_eq_some_iff.1 hh).1⟩
theorem own_ne {W : World} {b1 b2 s1 s2 n m : Nat} {e1 e2 : TypeId} {h v : Value} {xs ys : List Value} (hne : e1 ≠ e2) (h1 : W.ownsRow b1 e1 s1 h n xs) (h2 : W.ownsRow b2 e2 s2 v m ys) : h.ownBlock = none ∨ h.ownBlock ≠ v.ownBlock := by
  rcases h1.2 with ⟨rfl, _⟩ | ⟨g, cg, cur, rfl, _, hg, _⟩
  · exact .inl rfl
  · right
    rcases h2.2 with ⟨rfl, _⟩ | ⟨g', cg', cur', rfl, _, hg', _⟩
    · simp [Value.ownBlock]
    · intro e
      simp [Value.ownBlock] at e
      subst e
      rw [hg] at hg'
      simp at hg'
      exact hne hg'.2
theorem grown_set (W : World) (a : Addr) (x : Value) : W.grownBy (W.setCell a x) (some a.block) :=
  ⟨rfl, rfl, rfl, by simp [World.setCell], fun k _ hk => Below.heap_setCell _ _ _ k (fun e => hk (by rw [e]))⟩
theorem own_set {W : World} {base n : Nat} {e : TypeId} {v : Value} {xs : List Value} (h : W.ownsRow base e 1 v n xs) {a : Addr} (ha : a.block < base) (x : Value) : (W.setCell a x).ownsRow base e 1 v n xs :=
  h.kept (grown_set W a x) (by
    rcases own_lt h with h | ⟨g', h, h2, _⟩
    · exact .inl h
    · right; rw [h]; intro e; cases e; omega)
theorem rows_set {W : World} {base : Nat} {hs : List Value} {K : List (List Int)} (h : Rows W base hs K) {a : Addr} (ha : a.block < base) (x : Value) : Rows (W.setCell a x) base hs K :=
  ⟨h.1, fun j h' l h1 h2 => own_set (h.2.1 j h' l h1 h2) ha x, h.2.2⟩
theorem CopI_step {B i g cg : Nat} {n : Int} {L : List (List Int)} {hd v v1 : Value} {w wr w1 w3 : World} {hs : List Value} {l : List Int} (hlt : i < L.length) (hl1 : L[i]? = some l)
    (c0 : wr.cell? ⟨B, 0, none⟩ = some (.int .i64 n)) (c1 : wr.cell? ⟨B, 1, none⟩ = some hd) (d0 : wr.cell? ⟨B + 1, 0, none⟩ = some (.int .i64 0)) (d1 : wr.cell? ⟨B + 1, 1, none⟩ = some (.slice none 0 0)) (df : ∀ j, wr.frozen? ⟨B + 1, j, none⟩ = false)
    (e0 : wr.cell? ⟨B + 1 + 1, 0, none⟩ = some (.int .i64 n)) (ef : ∀ j, wr.frozen? ⟨B + 1 + 1, j, none⟩ = false) (hown : wr.ownsRow (B + 3) 39 1 v i hs) (hR : Rows wr (B + 3) hs (L.take i)) (hb : Below B w wr) (hsz : B + 3 ≤ wr.heap.size)
    (hown1 : w1.ownsRow (B + 3) 3 1 v1 l.length (l.map (Value.int .i64))) (hgrow1 : wr.drew.grownBy w1 none) (hat1 : v1.ownBlock = none ∨ v1.ownBlock = some wr.drew.heap.size)
    (hown3 : w3.ownsRow (B + 3) 39 1 (.slice (some ⟨g, 0, none⟩) (i + 1) cg) (i + 1) (hs ++ [v1])) (hgrow3 : (w1.alloc (.cells #[v1] 39)).grownBy w3 v.ownBlock) (j3 : w3.cell? ⟨B + 1 + 1, 1, none⟩ = some v) :
    CopI B n L hd w (w3.setCell ⟨B + 1 + 1, 1, none⟩ (.slice (some ⟨g, 0, none⟩) (i + 1) cg)) (i + 1) := by
  have hs1 : wr.heap.size ≤ w1.heap.size := hgrow1.size
  have hs2 : (w1.alloc (.cells #[v1] 39)).heap.size = w1.heap.size + 1 := by simp
  have hs3 : w1.heap.size + 1 ≤ w3.heap.size := by have := hgrow3.size; omega
  have hvb : ∀ b, b < B + 3 → some b ≠ v.ownBlock := fun b hb' e => by
    rcases own_lt hown with h | ⟨g', h, h2, _⟩
    · rw [h] at e; cases e
    · rw [h] at e; cases e; omega
  have ho1 : ∀ k, k < wr.heap.size → w1.heap[k]? = wr.heap[k]? := fun k hk => hgrow1.block k hk (by simp)
  have ho2 : ∀ k, k < w1.heap.size → (w1.alloc (.cells #[v1] 39)).heap[k]? = w1.heap[k]? := fun k hk => heap_alloc_old w1 _ hk
  have h3 : ∀ b, b < B + 3 → w3.heap[b]? = wr.heap[b]? := fun b hb' =>
    ((hgrow3.block b (by omega) (hvb b hb')).trans (ho2 b (by omega))).trans (ho1 b (by omega))
  have hg1 : wr.grownBy w1 none := ⟨hgrow1.os, hgrow1.tape, hgrow1.output, hgrow1.size, hgrow1.block⟩
  have hgs := grown_set w3 ⟨B + 1 + 1, 1, none⟩ (.slice (some ⟨g, 0, none⟩) (i + 1) cg)
  obtain ⟨y, hy⟩ : ∃ y, y = w3.setCell ⟨B + 1 + 1, 1, none⟩ (.slice (some ⟨g, 0, none⟩) (i + 1) cg) := ⟨_, rfl⟩
  rw [← hy] at hgs ⊢
  have hy1 : ∀ b, b < B + 3 → b ≠ B + 1 + 1 → y.heap[b]? = wr.heap[b]? := fun b hb' hne => (hgs.block b (by omega) (fun e => hne (by cases e; rfl))).trans (h3 b hb')
  have cl : ∀ b j, b < B + 3 → b ≠ B + 1 + 1 → y.cell? ⟨b, j, none⟩ = wr.cell? ⟨b, j, none⟩ := fun b j h1 h2 => World.cell?_of_block (hy1 b h1 h2)
  have fz : ∀ b j, b < B + 3 → y.frozen? ⟨b, j, none⟩ = wr.frozen? ⟨b, j, none⟩ := fun b j h1 => by
    rw [hy, World.frozen?_setCell]
    exact World.frozen?_of_block (h3 b h1)
  have ne3 : ∀ {h : Value} {m : Nat} {xs : List Value} {e : TypeId}, w3.ownsRow (B + 3) e 1 h m xs → h.ownBlock = none ∨ h.ownBlock ≠ some (B + 1 + 1) := fun h => by
    rcases own_lt h with h | ⟨g', h, h2, _⟩
    · exact .inl h
    · right; rw [h]; intro e; cases e; omega
  -- a row of the call's own stays
  have key : ∀ {h : Value} {m : Nat} {xs : List Value}, w1.ownsRow (B + 3) 3 1 h m xs → w1.ownsRow (B + 3) 39 1 v i hs → y.ownsRow (B + 3) 3 1 h m xs := fun hh hv => by
    have a1 := hh.alloc (.cells #[v1] 39)
    have a2 := a1.kept hgrow3 (own_ne (by decide) a1 (hv.alloc (.cells #[v1] 39)))
    exact a2.kept hgs (ne3 a2)
  have hv1 : w1.ownsRow (B + 3) 39 1 v i hs := hown.kept hg1 (by cases hv : v.ownBlock <;> simp)
  obtain ⟨r1, r2, r3⟩ := hR
  have htl : (L.take i).length = i := by rw [List.length_take]; omega
  rw [htl] at r1
  have etk : L.take (i + 1) = L.take i ++ [l] := by rw [List.take_add_one, hl1]; rfl
  refine ⟨_, hs ++ [v1], by omega, ?_, ?_, ?_, ?_, fun j => ?_, ?_, ?_, fun j => ?_, hown3.kept hgs (ne3 hown3), ⟨?_, ?_, ?_⟩, ?_, ?_⟩
  · rw [cl _ _ (by omega) (by omega)]; exact c0
  · rw [cl _ _ (by omega) (by omega)]; exact c1
  · rw [cl _ _ (by omega) (by omega)]; exact d0
  · rw [cl _ _ (by omega) (by omega)]; exact d1
  · rw [fz _ _ (by omega)]; exact df j
  · rw [hy]
    refine (World.cell?_setCell_other _ _ _ _ (by simp)).trans ?_
    exact (World.cell?_of_block (h3 _ (by show B + 1 + 1 < _; omega))).trans e0
  · rw [hy]; exact World.cell?_setCell_same _ _ _ j3
  · rw [fz _ _ (by omega)]; exact ef j
  · rw [etk, List.length_append, List.length_append, r1, htl]; rfl
  · intro j h l' hj hl'
    rw [etk] at hl'
    rcases Nat.lt_or_ge j i with hji | hji
    · rw [List.getElem?_append_left (by omega)] at hj
      rw [List.getElem?_append_left (by omega)] at hl'
      exact key ((r2 j h l' hj hl').kept hg1 (by cases hv : h.ownBlock <;> simp)) hv1
    · have e : j = i := by
        have := (List.getElem?_eq_some_iff.1 hj).1
        rw [List.length_append, r1, List.length_singleton] at this; omega
      subst e
      rw [List.getElem?_append_right (by omega), r1, Nat.sub_self] at hj
      rw [List.getElem?_append_right (by omega), htl, Nat.sub_self] at hl'
      simp at hj hl'; subst hj hl'
      exact key hown1 hv1
  · intro j k h h' hjk hj hk
    have old : ∀ (m : Nat) (x : Value), m < i → (hs ++ [v1])[m]? = some x → hs[m]? = some x ∧ (x.ownBlock = none ∨ ∃ q, x.ownBlock = some q ∧ q < wr.heap.size) := fun m x hm hx => by
      rw [List.getElem?_append_left (by omega)] at hx
      refine ⟨hx, ?_⟩
      obtain ⟨l', hl'⟩ : ∃ l', (L.take i)[m]? = some l' := ⟨_, List.getElem?_eq_getElem (by omega)⟩
      rcases own_lt (r2 m x l' hx hl') with h | ⟨q, h, _, h2⟩
      · exact .inl h
      · exact .inr ⟨q, h, h2⟩
    have new : ∀ (m : Nat) (x : Value), ¬ m < i → (hs ++ [v1])[m]? = some x → m = i ∧ x = v1 := fun m x hm hx => by
      have e : m = i := by
        have := (List.getElem?_eq_some_iff.1 hx).1
        rw [List.length_append, r1, List.length_singleton] at this; omega
      subst e
      rw [List.getElem?_append_right (by omega), r1, Nat.sub_self] at hx
      simp at hx; exact ⟨rfl, hx.symm⟩
    have hat : v1.ownBlock = none ∨ v1.ownBlock = some wr.heap.size := hat1
    by_cases h1 : j < i
    · obtain ⟨o1, o2⟩ := old j h h1 hj
      by_cases h2 : k < i
      · exact r3 j k h h' hjk o1 (old k h' h2 hk).1
      · obtain ⟨_, rfl⟩ := new k h' h2 hk
        rcases o2 with o2 | ⟨q, o2, o3⟩
        · exact .inl o2
        · right
          rw [o2]
          rcases hat with e | e <;> rw [e]
          · simp
          · intro e; cases e; omega
    · obtain ⟨rfl, rfl⟩ := new j h h1 hj
      by_cases h2 : k < j
      · obtain ⟨_, o2⟩ := old k h' h2 hk
        rcases hat with e | e
        · exact .inl e
        · right
          rw [e]
          rcases o2 with o2 | ⟨q, o2, o3⟩ <;> rw [o2]
          · simp
          · intro e; cases e; omega
      · obtain ⟨e, _⟩ := new k h' h2 hk
        exact absurd e.symm hjk
  · refine ⟨?_, ?_, ?_, ?_, fun k hk => (hy1 k (by omega) (by omega)).trans (hb.block k hk)⟩
    · exact hgs.os.trans (hgrow3.os.trans (hg1.os.trans hb.os))
    · exact hgs.tape.trans (hgrow3.tape.trans (hg1.tape.trans hb.tape))
    · exact hgs.output.trans (hgrow3.output.trans (hg1.output.trans hb.output))
    · have := hgs.size; have := hb.size; omega
  · have := hgs.size; omega
end Go.Nx
end
section
set_option linter.unusedVariables false
set_option linter.unusedSimpArgs false
set_option maxRecDepth 20000
set_option maxHeartbeats 0
namespace Go.Nx
open Go Go.RowKit Go.Shelf Go.Proofs

theorem copied_calls (n : Int) (L : List (List Int)) (b0 o0 cap : Nat) (w : World) (us : List Value) (hl : L.length ≤ 1048576) (hL : ∀ l ∈ L, l.length ≤ 1048576) (hul : us.length = L.length) (hb0 : b0 < w.heap.size) (hcap : L.length ≤ cap)
    (hus : ∀ j u, us[j]? = some u → w.cell? ⟨b0, o0 + j, none⟩ = some u) (hur : ∀ (j : Nat) (u : Value) (l : List Int), us[j]? = some u → L[j]? = some l → RowV w u l) :
    Calls Tryd.prog 55 #[.agg #[.int .i64 n, .slice (some ⟨b0, o0, none⟩) L.length cap]] w fun e w' => ∃ (v : Value) (hs : List Value), e = .returned (.agg #[.int .i64 n, v]) ∧ w'.ownsRow (w.heap.size + 3) 39 1 v L.length hs ∧ Rows w' (w.heap.size + 3) hs L ∧ Below w.heap.size w w' := by
  obtain ⟨i0, hi, hz0, hz1, hz2⟩ := info_parts infoI
  obtain ⟨r0, hr, hy0, hy1, hy2⟩ := info_parts infoR39
  go_enter Tryd.func55, Tryd.ntmps55
  go_wp2_with fail
  go_loopw [4] (fun a wr => ∃ i : Nat, a = .int .i64 (i : Int) ∧ CopI w.heap.size n L (.slice (some ⟨b0, o0, none⟩) L.length cap) w wr i) (fun a _ => match a with | .int _ m => L.length - m.toNat | _ => 0)
  case atStart =>
    refine ⟨0, rfl, .slice none 0 0, [], Nat.zero_le _, ?_, ?_, ?_, ?_, fun j => ?_, ?_, ?_, fun j => ?_, World.ownsRow_nil _ _ _ _, ⟨rfl, fun j h l hj => by simp at hj, fun j k h h' _ hj => by simp at hj⟩, ?_, ?_⟩
    all_goals first | (simp [go_sem]; done) | skip
    exact ((((Below.refl _ w).alloc (Nat.le_refl _) _).alloc (by simp) _).alloc (by simp; omega) _)
  case round =>
    obtain ⟨i, rfl, v, hs, hi1, c0, c1, d0, d1, df, e0, e1, ef, hown, hR, hb, hsz⟩ := hrel
    by_cases hlt : i < L.length
    · obtain ⟨u, hu⟩ : ∃ u, us[i]? = some u := ⟨_, List.getElem?_eq_getElem (by omega)⟩
      obtain ⟨l, hl1⟩ : ∃ l, L[i]? = some l := ⟨_, List.getElem?_eq_getElem hlt⟩
      have cu : wr.cell? ⟨b0, o0 + i, none⟩ = some u := (hb.cell (p := ⟨b0, o0 + i, none⟩) hb0).trans (hus _ _ hu)
      have hrow0 : RowV wr u l := (hur i u l hu hl1).below hb (Nat.le_refl _)
      have hrow : RowV wr.drew u l := hrow0
      have hll : l.length ≤ 1048576 := hL l (List.mem_of_getElem? hl1)
      have hlt' : (i : Int) < (L.length : Int) := by omega
      have c1d : wr.drew.cell? ⟨w.heap.size, 1, none⟩ = some (.slice (some ⟨b0, o0, none⟩) L.length cap) := c1
      have cud : wr.drew.cell? ⟨b0, o0 + i, none⟩ = some u := cu
      have e1d : wr.drew.cell? ⟨w.heap.size + 1 + 1, 1, none⟩ = some v := e1
      have efd : wr.drew.frozen? ⟨w.heap.size + 1 + 1, 1, none⟩ = false := ef 1
      have hszd : w.heap.size + 3 ≤ wr.drew.heap.size := hsz
      have hownd : wr.drew.ownsRow (w.heap.size + 3) 39 1 v i hs := hown
      have hvb : ∀ b, b < w.heap.size + 3 → some b ≠ v.ownBlock := by
        rcases hown.2 with ⟨rfl, _⟩ | ⟨g, cg, cur, rfl, hg, _⟩
        · intro b _ h; cases h
        · intro b hb h; simp [Value.ownBlock] at h; omega
      have nb1 : ¬ w.heap.size + 1 + 1 = b0 := by omega
      have nb2 : ¬ b0 = w.heap.size + 1 + 1 := by omega
      go_wp2_with fail
      go_region_law (first
        | (refine step_append_row rfl _ _ rfl (w.heap.size + 3) hszd rfl u l rfl hrow hll ?_; intro ao1 m1 q1 w1 hown1 hgrow1 hat1; have k1 := (hgrow1.cell_far ⟨w.heap.size, 1, none⟩ (show w.heap.size < wr.drew.heap.size by omega) (by simp)).trans c1d; have k2 := (hgrow1.cell_far ⟨b0, o0 + i, none⟩ (show b0 < wr.drew.heap.size by omega) (by simp)).trans cud; have k3 := (hgrow1.cell_far ⟨w.heap.size + 1 + 1, 1, none⟩ (show w.heap.size + 1 + 1 < wr.drew.heap.size by omega) (by simp)).trans e1d; have k4 := (hgrow1.frozen_far ⟨w.heap.size + 1 + 1, 1, none⟩ (show w.heap.size + 1 + 1 < wr.drew.heap.size by omega) (by simp)).trans efd; have ks : wr.drew.heap.size ≤ w1.heap.size := hgrow1.size; have k5 : (w1.alloc (.cells #[.slice ao1 m1 q1] 39)).cell? ⟨w.heap.size + 1 + 1, 1, none⟩ = some v := (World.cell?_alloc_past _ _ _ (show w.heap.size + 1 + 1 < _ by omega)).trans k3; have hv1 := (hownd.kept hgrow1 (by cases hv : v.ownBlock <;> simp)).alloc (.cells #[.slice ao1 m1 q1] 39))
        | (refine step_append_lies _ rfl (.tmp 16) (.tmp 23) 22 rfl (w.heap.size + 3) 39 r0 (.slice none 0 0) 1 24 Tryd.underlying22 hr hy0 hy1 hy2 rfl (by decide) v i hs (by rfl) hv1 ⟨w1.heap.size, 0, none⟩ 1 1 [.slice ao1 m1 q1] (by rfl) (by rfl) (World.news_of_block (heap_alloc_new w1 _)) (by simp [Value.oneCell']) (by decide) (by unfold maxLen; omega) (by omega) (by simp; omega) _ rfl ?_; intro g cg w3 hown3 hgrow3 hat3 hlt3; have j1 := (hgrow3.cell_far ⟨w.heap.size, 1, none⟩ (show w.heap.size < _ by simp; omega) (hvb _ (by show w.heap.size < _; omega))).trans ((World.cell?_alloc_past _ _ _ (show w.heap.size < _ by omega)).trans k1); have j2 := (hgrow3.cell_far ⟨b0, o0 + i, none⟩ (show b0 < _ by simp; omega) (hvb _ (by show b0 < _; omega))).trans ((World.cell?_alloc_past _ _ _ (show b0 < _ by omega)).trans k2); have j3 := (hgrow3.cell_far ⟨w.heap.size + 1 + 1, 1, none⟩ (show w.heap.size + 1 + 1 < _ by simp; omega) (hvb _ (by show w.heap.size + 1 + 1 < _; omega))).trans ((World.cell?_alloc_past _ _ _ (show w.heap.size + 1 + 1 < _ by omega)).trans k3); have j4 := (hgrow3.frozen_far ⟨w.heap.size + 1 + 1, 1, none⟩ (show w.heap.size + 1 + 1 < _ by simp; omega) (hvb _ (by show w.heap.size + 1 + 1 < _; omega))).trans ((World.frozen?_alloc_past _ _ _ (show w.heap.size + 1 + 1 < _ by omega)).trans k4)))
      all_goals
        have fin := CopI_step (n := n) (w := w) (hd := .slice (some ⟨b0, o0, none⟩) L.length cap) hlt hl1 c0 c1 d0 d1 df e0 ef hown hR hb hsz hown1 hgrow1 hat1 hown3 hgrow3 j3
        clear hgrow1 hgrow3 hown1 hown3 hv1 hown hownd hR
        go_wp2_with fail
        exact ⟨⟨i + 1, by rw [Int.natCast_succ], fin⟩, by show L.length - ((i : Int) + 1).toNat < L.length - ((i : Int)).toNat; omega⟩
    · have f0 := df 0
      have f1 := df 1
      have hge : ¬ (i : Int) < (L.length : Int) := by omega
      obtain rfl : i = L.length := by omega
      rw [List.take_length] at hR
      obtain ⟨ao, m, c, rfl⟩ : ∃ ao m c, v = .slice ao m c := by
        rcases hown.2 with ⟨rfl, _⟩ | ⟨g, cap', cur, rfl, _⟩
        · exact ⟨_, _, _, rfl⟩
        · exact ⟨_, _, _, rfl⟩
      have hq0 : 0 = 0 := rfl
      go_wp2_with fail
      have fo := own_set (own_set hown (a := ⟨w.heap.size + 1, 0, none⟩) (by show w.heap.size + 1 < _; omega) (.int .i64 n)) (a := ⟨w.heap.size + 1, 1, none⟩) (by show w.heap.size + 1 < _; omega) (.slice ao m c)
      have fr := rows_set (rows_set hR (a := ⟨w.heap.size + 1, 0, none⟩) (by show w.heap.size + 1 < _; omega) (.int .i64 n)) (a := ⟨w.heap.size + 1, 1, none⟩) (by show w.heap.size + 1 < _; omega) (.slice ao m c)
      have fb := (hb.setCell (p := ⟨w.heap.size + 1, 0, none⟩) (Nat.le_succ _) (.int .i64 n)).setCell (p := ⟨w.heap.size + 1, 1, none⟩) (Nat.le_succ _) (.slice ao m c)
      have z1 := World.cell?_setCell_same (wr.setCell ⟨w.heap.size + 1, 0, none⟩ (.int .i64 n)) ⟨w.heap.size + 1, 1, none⟩ (.slice ao m c) (u := .slice none 0 0) ((World.cell?_setCell_other _ _ _ _ (by simp)).trans d1)
      have z0 : ((wr.setCell ⟨w.heap.size + 1, 0, none⟩ (.int .i64 n)).setCell ⟨w.heap.size + 1, 1, none⟩ (.slice ao m c)).cell? ⟨w.heap.size + 1, 0, none⟩ = some (.int .i64 n) := (World.cell?_setCell_other _ _ _ _ (by simp)).trans (World.cell?_setCell_same _ _ _ (u := .int .i64 0) d0)
      refine bodyPost_ret (v := .agg #[.int .i64 n, .slice ao m c]) ?_ rfl ⟨_, rfl, hs, fo, fr, fb⟩
      simp [results, Tryd.results55, go_sem, z0, z1]
end Go.Nx
end
section
set_option linter.unusedVariables false
set_option linter.unusedSimpArgs false
set_option maxRecDepth 20000
set_option maxHeartbeats 0
namespace Go.Nx
open Go Go.RowKit Go.Shelf Go.Proofs

theorem own_update {W : World} {base g n cg s : Nat} {e : TypeId} {xs : List Value} (h : W.ownsRow base e 1 (.slice (some ⟨g, 0, none⟩) n cg) n xs) (x : Value) : (W.setCell ⟨g, s, none⟩ x).ownsRow base e 1 (.slice (some ⟨g, 0, none⟩) n cg) n (xs.set s x) := by
  refine ⟨by rw [List.length_set]; exact h.1, .inr ?_⟩
  rcases h.2 with ⟨h0, _⟩ | ⟨g', cg', cur, h0, hb, hg, h1, h2, h3, h4⟩
  · cases h0
  · simp only [Value.slice.injEq, Option.some.injEq, Addr.mk.injEq] at h0
    obtain ⟨⟨rfl, _⟩, _, rfl⟩ := h0
    refine ⟨g, cg, cur.setIfInBounds s x, rfl, hb, ?_, h1, h2, by rw [Array.size_setIfInBounds]; exact h3, ?_⟩
    · simp only [World.setCell, Array.getElem?_modify]
      rw [if_pos trivial, hg]; rfl
    · rw [Array.toList_setIfInBounds, List.take_set, h4]
theorem rows_put {W : World} {base g cg i s : Nat} {hs : List Value} {L : List (List Int)} {l : List Int} (hR : Rows W base hs L) (hi : hs[i]? = some (.slice (some ⟨g, 0, none⟩) l.length cg)) (hl : L[i]? = some l) (v : Int) :
    Rows (W.setCell ⟨g, s, none⟩ (.int .i64 v)) base hs (L.set i (l.set s v)) := by
  obtain ⟨r1, r2, r3⟩ := hR
  refine ⟨by rw [List.length_set]; exact r1, fun j h l' hj hl' => ?_, r3⟩
  by_cases e : i = j
  · subst e
    rw [hi] at hj; injection hj with hj; subst hj
    rw [List.getElem?_set_self (by exact (List.getElem?_eq_some_iff.1 hl).1)] at hl'
    injection hl' with hl'; subst hl'
    have := own_update (s := s) (r2 i _ l hi hl) (.int .i64 v)
    rw [List.length_set, List.map_set]
    exact this
  · rw [List.getElem?_set_ne e] at hl'
    have := r2 j h l' hj hl'
    refine this.kept (grown_set W ⟨g, s, none⟩ _) ?_
    rcases r3 j i h _ (Ne.symm e) hj hi with h0 | h0
    · exact .inl h0
    · exact .inr h0
theorem rows_alloc {W : World} {base : Nat} {hs : List Value} {K : List (List Int)} (h : Rows W base hs K) (o : Obj) : Rows (W.alloc o) base hs K := ⟨h.1, fun j h' l h1 h2 => (h.2.1 j h' l h1 h2).alloc o, h.2.2⟩
theorem rows_mono {W : World} {base b2 : Nat} {hs : List Value} {K : List (List Int)} (h : Rows W base hs K) (hb : b2 ≤ base) : Rows W b2 hs K := ⟨h.1, fun j h' l h1 h2 => (h.2.1 j h' l h1 h2).mono hb, h.2.2⟩
theorem Rows.len {W : World} {base : Nat} {hs : List Value} {L : List (List Int)} (hR : Rows W base hs L) {i : Nat} {l : List Int} (hl : L[i]? = some l) (hne : 0 < l.length) : ∃ (g cg : Nat), hs[i]? = some (.slice (some ⟨g, 0, none⟩) l.length cg) ∧ base ≤ g ∧ g < W.heap.size ∧ (∀ j, W.frozen? ⟨g, j, none⟩ = false) ∧ ∀ j, j < l.length → ∃ x, W.cell? ⟨g, j, none⟩ = some x := by
  obtain ⟨r1, r2, r3⟩ := hR
  have hlt : i < hs.length := by rw [r1]; exact (List.getElem?_eq_some_iff.1 hl).1
  obtain ⟨h, hh⟩ : ∃ h, hs[i]? = some h := ⟨_, List.getElem?_eq_getElem hlt⟩
  rcases (r2 i h l hh hl).2 with ⟨_, h0⟩ | ⟨g, cg, cur, rfl, hb, hg, h1, h2, h3, h4⟩
  · omega
  · refine ⟨g, cg, hh, hb, (Array.getElem?_eq_some_iff.1 hg).1, fun j => by simp [World.frozen?, hg], fun j hj => ⟨cur[j]'(by omega), by simp [World.cell?, hg]⟩⟩
theorem rput_calls (n o s v : Int) (L : List (List Int)) (b0 o0 cap : Nat) (w : World) (us : List Value) (hl : L.length ≤ 1048576) (hL : ∀ l ∈ L, l.length ≤ 1048576) (hul : us.length = L.length) (hb0 : b0 < w.heap.size) (hcap : L.length ≤ cap)
    (hus : ∀ j u, us[j]? = some u → w.cell? ⟨b0, o0 + j, none⟩ = some u) (hur : ∀ (j : Nat) (u : Value) (l : List Int), us[j]? = some u → L[j]? = some l → RowV w u l)
    (ho : 1 ≤ o ∧ o ≤ L.length) (hs : 0 ≤ s ∧ s < (row L o).length) (hv : 0 ≤ v ∧ v ≤ L.length)
    (hth : Calls Tryd.prog 54 #[.agg #[.int .i64 n, .slice (some ⟨b0, o0, none⟩) L.length cap], .int .i64 o, .int .i64 s] ((w.alloc (.cells #[.int .i64 n, .slice (some ⟨b0, o0, none⟩) L.length cap] 43)).alloc (.cells #[.int .i64 0, .slice none 0 0] 43))
      fun e w' => e = .returned (.bool true) ∧ Below (w.heap.size + 2) ((w.alloc (.cells #[.int .i64 n, .slice (some ⟨b0, o0, none⟩) L.length cap] 43)).alloc (.cells #[.int .i64 0, .slice none 0 0] 43)) w') :
    Calls Tryd.prog 20 #[.agg #[.int .i64 n, .slice (some ⟨b0, o0, none⟩) L.length cap], .int .i64 o, .int .i64 s, .int .i64 v] w fun e w' => ∃ (hd : Value) (hs' : List Value), e = .returned (.tuple #[.agg #[.int .i64 n, hd], .bool true]) ∧ w'.ownsRow w.heap.size 39 1 hd L.length hs' ∧ Rows w' w.heap.size hs' (hSet L o s v) ∧ Below w.heap.size w w' := by
  go_enter Tryd.func20, Tryd.ntmps20
  have hv0 : ¬ v < 0 := by omega
  have hv1 : ¬ (L.length : Int) < v := by omega
  go_wp2_with (go_at_call 54; refine hth.mono ?_; rintro e w1 ⟨rfl, hb1⟩; have c0 : w1.cell? ⟨w.heap.size, 0, none⟩ = some (.int .i64 n) := (hb1.cell (by simp)).trans (by simp); have c1 : w1.cell? ⟨w.heap.size, 1, none⟩ = some (.slice (some ⟨b0, o0, none⟩) L.length cap) := (hb1.cell (by simp)).trans (by simp); have d0 : w1.cell? ⟨w.heap.size + 1, 0, none⟩ = some (.int .i64 0) := (hb1.cell (by simp)).trans (by simp); have d1 : w1.cell? ⟨w.heap.size + 1, 1, none⟩ = some (.slice none 0 0) := (hb1.cell (by simp)).trans (by simp); have e0 : ∀ j, w1.frozen? ⟨w.heap.size + 1, j, none⟩ = false := fun j => (hb1.frozen (by simp)).trans (by simp))
  have hbw1 : Below w.heap.size w w1 := (((Below.refl _ w).alloc (Nat.le_refl _) _).alloc (by simp) _).trans (hb1.mono (by omega))
  have hs1 : w.heap.size + 2 ≤ w1.heap.size := by have := hb1.size; simp at this; omega
  refine (copied_calls n L b0 o0 cap w1 us hl hL hul (by omega) hcap (fun j u hj => (hbw1.cell (p := ⟨b0, o0 + j, none⟩) hb0).trans (hus j u hj)) (fun j u l h1 h2 => (hur j u l h1 h2).below hbw1 (Nat.le_refl _))).mono ?_
  rintro e w2 ⟨hd, hs', rfl, how2, hR2, hb2⟩
  obtain ⟨g, cg, rfl, hg1, hg2⟩ := how2.form (by omega)
  have hs2 := hb2.size
  have c0' : w2.cell? ⟨w.heap.size, 0, none⟩ = some (.int .i64 n) := (hb2.cell (show w.heap.size < _ by omega)).trans c0
  have d0' : w2.cell? ⟨w.heap.size + 1, 0, none⟩ = some (.int .i64 0) := (hb2.cell (show w.heap.size + 1 < _ by omega)).trans d0
  have d1' : w2.cell? ⟨w.heap.size + 1, 1, none⟩ = some (.slice none 0 0) := (hb2.cell (show w.heap.size + 1 < _ by omega)).trans d1
  have e0' : ∀ j, w2.frozen? ⟨w.heap.size + 1, j, none⟩ = false := fun j => (hb2.frozen (show w.heap.size + 1 < _ by omega)).trans (e0 j)
  have e00 := e0' 0
  have e01 := e0' 1
  obtain ⟨i, hi⟩ : ∃ i : Nat, o - 1 = (i : Int) := ⟨(o - 1).toNat, by omega⟩
  have hit : (o - 1).toNat = i := by omega
  have hiL : i < L.length := by omega
  have hwo : IntKind.i64.wrap (o - 1) = (i : Int) := by rw [hi]; exact wrap_i64 ⟨by omega, by omega⟩
  obtain ⟨si, rfl⟩ : ∃ si : Nat, s = (si : Int) := ⟨s.toNat, by omega⟩
  have erow : L[i]? = some (row L o) := by unfold row; rw [hit, List.getElem?_eq_getElem hiL]; rfl
  obtain ⟨g2, cg2, hh, hb', hlt2, fz2, cl2⟩ := hR2.len erow (by omega)
  obtain ⟨old, hold⟩ := cl2 si (by omega)
  have fzs := fz2 si
  have crow : w2.cell? ⟨g, i, none⟩ = some (.slice (some ⟨g2, 0, none⟩) (row L o).length cg2) := by
    have := how2.cells (g := g) rfl i _ hh
    have hadd : (⟨g, 0, none⟩ : Addr).add i = ⟨g, i, none⟩ := by unfold Addr.add; split <;> simp_all
    rwa [hadd] at this
  have hi0 : (0 : Int) ≤ (i : Int) := by omega
  have hi2 : (i : Int) < (L.length : Int) := by omega
  have hs0 : (0 : Int) ≤ (si : Int) := by omega
  have hs3 : (si : Int) < ((row L o).length : Int) := hs.2
  have ng : g ≠ w2.heap.size := by omega
  have ng2 : g2 ≠ w2.heap.size := by omega
  have how3 := how2
  have ngx : ¬ w2.heap.size = g := by omega
  have ng2x : ¬ w2.heap.size = g2 := by omega
  have ngB : ¬ w.heap.size + 1 = g2 := by omega
  have ngB' : ¬ g2 = w.heap.size + 1 := by omega
  have nBw : ¬ w2.heap.size = w.heap.size + 1 := by omega
  have nBw' : ¬ w.heap.size + 1 = w2.heap.size := by omega
  have ltB : w.heap.size + 1 < w2.heap.size := by omega
  clear hth hb1 c0 c1 d0 d1 e0 hus hur how2
  dsimp only
  go_wp2_with fail
  have hset : L.set i ((row L o).set si v) = hSet L o (si : Int) v := by unfold hSet; rw [hit, Int.toNat_natCast]
  have hrow2 := hR2.2.1 i _ _ hh erow
  have hgg : (Value.slice (some ⟨g, 0, none⟩) L.length cg).ownBlock = none ∨ (Value.slice (some ⟨g, 0, none⟩) L.length cg).ownBlock ≠ some g2 := by
    rcases own_ne (by decide) how3 hrow2 with h | h
    · exact .inl h
    · exact .inr h
  have fo := ((own_set (own_set (how3.kept (grown_set w2 ⟨g2, si, none⟩ (.int .i64 v)) hgg) (a := ⟨w.heap.size + 1, 0, none⟩) (by show w.heap.size + 1 < _; omega) (.int .i64 n)) (a := ⟨w.heap.size + 1, 1, none⟩) (by show w.heap.size + 1 < _; omega) (.slice (some ⟨g, 0, none⟩) L.length cg)).alloc (.cells #[.int .i64 n, .slice (some ⟨g, 0, none⟩) L.length cg] 43)).mono (show w.heap.size ≤ w1.heap.size + 3 by omega)
  have fr := rows_mono (rows_alloc (rows_set (rows_set (rows_put (s := si) hR2 hh erow v) (a := ⟨w.heap.size + 1, 0, none⟩) (by show w.heap.size + 1 < _; omega) (.int .i64 n)) (a := ⟨w.heap.size + 1, 1, none⟩) (by show w.heap.size + 1 < _; omega) (.slice (some ⟨g, 0, none⟩) L.length cg)) (.cells #[.int .i64 n, .slice (some ⟨g, 0, none⟩) L.length cg] 43)) (show w.heap.size ≤ w1.heap.size + 3 by omega)
  rw [hset] at fr
  have hbw2 : Below w.heap.size w w2 := hbw1.trans (hb2.mono (by omega))
  have fb := (((hbw2.setCell (p := ⟨g2, si, none⟩) (show w.heap.size ≤ g2 by omega) (.int .i64 v)).setCell (p := ⟨w.heap.size + 1, 0, none⟩) (Nat.le_succ _) (.int .i64 n)).setCell (p := ⟨w.heap.size + 1, 1, none⟩) (Nat.le_succ _) (.slice (some ⟨g, 0, none⟩) L.length cg)).alloc (by simp [World.setCell]; omega) (.cells #[.int .i64 n, .slice (some ⟨g, 0, none⟩) L.length cg] 43)
  have y0 : (w2.setCell ⟨g2, si, none⟩ (.int .i64 v)).cell? ⟨w.heap.size + 1, 0, none⟩ = some (.int .i64 0) := (World.cell?_setCell_other _ _ _ _ (by simp [ngB'])).trans d0'
  have y1 : (w2.setCell ⟨g2, si, none⟩ (.int .i64 v)).cell? ⟨w.heap.size + 1, 1, none⟩ = some (.slice none 0 0) := (World.cell?_setCell_other _ _ _ _ (by simp [ngB'])).trans d1'
  obtain ⟨w5, hw5⟩ : ∃ w5, w5 = w2.setCell ⟨g2, si, none⟩ (.int .i64 v) := ⟨_, rfl⟩
  rw [← hw5] at fo fr fb y0 y1 ⊢
  have z1 := World.cell?_setCell_same (w5.setCell ⟨w.heap.size + 1, 0, none⟩ (.int .i64 n)) ⟨w.heap.size + 1, 1, none⟩ (.slice (some ⟨g, 0, none⟩) L.length cg) (u := .slice none 0 0) ((World.cell?_setCell_other _ _ _ _ (by simp)).trans y1)
  have z0 : ((w5.setCell ⟨w.heap.size + 1, 0, none⟩ (.int .i64 n)).setCell ⟨w.heap.size + 1, 1, none⟩ (.slice (some ⟨g, 0, none⟩) L.length cg)).cell? ⟨w.heap.size + 1, 0, none⟩ = some (.int .i64 n) := (World.cell?_setCell_other _ _ _ _ (by simp)).trans (World.cell?_setCell_same _ _ _ (u := .int .i64 0) y0)
  have l5 : w.heap.size + 1 < w5.heap.size := by rw [hw5]; simpa [World.setCell] using ltB
  obtain ⟨w6, hw6⟩ : ∃ w6, w6 = (w5.setCell ⟨w.heap.size + 1, 0, none⟩ (.int .i64 n)).setCell ⟨w.heap.size + 1, 1, none⟩ (.slice (some ⟨g, 0, none⟩) L.length cg) := ⟨_, rfl⟩
  have l6 : w.heap.size + 1 < w6.heap.size := by rw [hw6]; simpa [World.setCell] using l5
  rw [← hw6] at fo fr fb z0 z1 ⊢
  have x0 := (World.cell?_alloc_past (.cells #[.int .i64 n, .slice (some ⟨g, 0, none⟩) L.length cg] 43) _ 0 l6).trans z0
  have x1 := (World.cell?_alloc_past (.cells #[.int .i64 n, .slice (some ⟨g, 0, none⟩) L.length cg] 43) _ 1 l6).trans z1
  have fin := Exists.intro (p := fun hd => ∃ hs' : List Value, Ending.returned (.tuple #[.agg #[.int .i64 n, .slice (some ⟨g, 0, none⟩) L.length cg], .bool true]) = Ending.returned (.tuple #[.agg #[.int .i64 n, hd], .bool true]) ∧ (w6.alloc (.cells #[.int .i64 n, .slice (some ⟨g, 0, none⟩) L.length cg] 43)).ownsRow w.heap.size 39 1 hd L.length hs' ∧ Rows (w6.alloc (.cells #[.int .i64 n, .slice (some ⟨g, 0, none⟩) L.length cg] 43)) w.heap.size hs' (hSet L o (si : Int) v) ∧ Below w.heap.size w (w6.alloc (.cells #[.int .i64 n, .slice (some ⟨g, 0, none⟩) L.length cg] 43))) _ ⟨hs', rfl, fo, fr, fb⟩
  clear fo fr fb
  refine bodyPost_ret (v := .tuple #[.agg #[.int .i64 n, .slice (some ⟨g, 0, none⟩) L.length cg], .bool true]) ?_ rfl fin
  simp [results, Tryd.results20, go_sem, x0, x1]
end Go.Nx
end
section
set_option linter.unusedVariables false
set_option linter.unusedSimpArgs false
set_option maxRecDepth 20000
set_option maxHeartbeats 4000000
namespace Go.Nx
open Go Go.RowKit Go.Proofs

theorem rowV_of {S : Cells} {w : World} {u : Value} {l : List Int} (h : RelT S w (.list 1 (is l)) u) (hS : ∀ b o, S b o → b < w.heap.size) : RowV w u l := by
  by_cases e : l = []
  · subst e
    cases h with
    | list sz xs a cap u hcap ha hsz hr => exact ⟨a, cap, rfl, fun h => absurd rfl h⟩
  · have hne : is l ≠ [] := fun h => e (by cases l with | nil => rfl | cons x r => simp [is] at h)
    obtain ⟨b, o, cap, us, rfl, h1, h2, h3, h4⟩ := list_in h hne (fun x hx => (is_cells l x hx).1)
    rw [is_len] at h1
    refine ⟨_, cap, by rw [is_len], fun _ => ⟨b, o, rfl, ?_, fun j u hj => ?_⟩⟩
    · have hlt : 0 < us.length := by rw [h1]; exact List.length_pos_iff.2 e
      exact hS _ _ (h3 0 _ (List.getElem?_eq_getElem hlt)).1
    · rw [List.getElem?_map] at hj
      cases hh : l[j]? with
      | none => rw [hh] at hj; cases hj
      | some n =>
        rw [hh] at hj
        simp at hj; subst hj
        have hlt : j < us.length := by rw [h1]; exact (List.getElem?_eq_some_iff.1 hh).1
        have hx : (is l)[j]? = some (.int .i64 n) := by unfold is; rw [List.getElem?_map, hh]; rfl
        have hu := List.getElem?_eq_getElem hlt
        have := (h4 j _ _ hx hu).int_of
        rw [(h3 j _ hu).2, this]
theorem rel_row {S : Cells} {w W : World} {h : Value} {l : List Int} (ho : W.ownsRow w.heap.size 3 1 h l.length (l.map (Value.int .i64))) : RelT (fresh S w W) W (.list 1 (is l)) h := by
  rcases ho.2 with ⟨rfl, h0⟩ | ⟨g, cg, cur, rfl, hb, hg, h1, h2, h3, h4⟩
  · obtain rfl : l = [] := List.eq_nil_of_length_eq_zero h0
    exact .list 1 [] none 0 (fun _ _ => .nilFunc) (Nat.le_refl _) (fun h => absurd rfl h) (fun x hx => by cases hx) (fun i x hx => by simp at hx)
  · have hlt := (Array.getElem?_eq_some_iff.1 hg).1
    have := list_out (S := fresh S w W) (w := W) (xs := is l) (g := g) (cap := cg) (fun j => .int .i64 (at0 l j)) (by rw [is_len]; exact h1) (fun j hj => ⟨.inr ⟨hb, hlt⟩, ?_⟩) (is_cells l) (fun j x hx => ?_)
    · rw [is_len] at this; exact this
    · rw [is_len] at hj
      have hj2 : (l.map (Value.int .i64))[j]? = some (.int .i64 (at0 l j)) := by rw [List.getElem?_map, List.getElem?_eq_getElem hj]; simp [at0, hj]
      rw [← h4, List.getElem?_take] at hj2
      split at hj2
      · simp [World.cell?, hg]; simpa using hj2
      · cases hj2
    · unfold is at hx
      rw [List.getElem?_map] at hx
      cases hh : l[j]? with
      | none => rw [hh] at hx; cases hx
      | some n =>
        rw [hh] at hx; simp at hx; subst hx
        have : at0 l (j : Int) = n := by simp [at0, hh]
        rw [this]; exact .int _ _
theorem rel_rows {S : Cells} {w W : World} {hd : Value} {hs : List Value} {K : List (List Int)} (ho : W.ownsRow w.heap.size 39 1 hd K.length hs) (hR : Rows W w.heap.size hs K) : RelT (fresh S w W) W (.list 1 (rs K)) hd := by
  rcases ho.2 with ⟨rfl, h0⟩ | ⟨g, cg, cur, rfl, hb, hg, h1, h2, h3, h4⟩
  · obtain rfl : K = [] := List.eq_nil_of_length_eq_zero h0
    exact .list 1 [] none 0 (fun _ _ => .nilFunc) (Nat.le_refl _) (fun h => absurd rfl h) (fun x hx => by cases hx) (fun i x hx => by simp at hx)
  · have hlt := (Array.getElem?_eq_some_iff.1 hg).1
    have hlen : hs.length = K.length := hR.1
    have := list_out (S := fresh S w W) (w := W) (xs := rs K) (g := g) (cap := cg) (fun j => hs.getD j .nilFunc) (by rw [rs_len]; exact h1) (fun j hj => ⟨.inr ⟨hb, hlt⟩, ?_⟩) (rs_cells K) (fun j x hx => ?_)
    · rw [rs_len] at this; exact this
    · rw [rs_len] at hj
      have hj2 : hs[j]? = some (hs.getD j .nilFunc) := by rw [List.getD_eq_getElem?_getD, List.getElem?_eq_getElem (by omega)]; rfl
      rw [← h4, List.getElem?_take] at hj2
      split at hj2
      · simp [World.cell?, hg]
        rw [← h4]
        simpa using hj2
      · cases hj2
    · unfold rs at hx
      rw [List.getElem?_map] at hx
      cases hh : K[j]? with
      | none => rw [hh] at hx; cases hx
      | some l =>
        rw [hh] at hx; simp at hx; subst hx
        have hj : j < hs.length := by rw [hlen]; exact (List.getElem?_eq_some_iff.1 hh).1
        have hj2 : hs[j]? = some (hs.getD j .nilFunc) := by rw [List.getD_eq_getElem?_getD, List.getElem?_eq_getElem hj]; rfl
        exact rel_row (hR.2.1 j _ l hj2 hh)
theorem rput_yes (n o s v : Int) (L : List (List Int)) (hl : L.length ≤ 1048576) (hL : ∀ l ∈ L, l.length ≤ 1048576 ∧ ∀ n ∈ l, I64 n) (hq : I64 o ∧ I64 s ∧ I64 v) (hh : hPutOk L o s v = true) (he : Enter Tryd.prog 20) :
    FnOk Tryd.prog tgl 20 [.agg [.int .i64 n, .list 1 (rs L)], .int .i64 o, .int .i64 s, .int .i64 v] (.tup [.agg [.int .i64 n, .list 1 (rs (hSet L o s v))], .bool true]) := by
  refine ⟨he, fun S w args hS hgl hn ha => ?_⟩
  unfold hPutOk at hh
  simp only [Bool.and_eq_true, decide_eq_true_eq] at hh
  obtain ⟨hth, hv0, hv1⟩ := hh
  obtain ⟨t1, t2, t3, t4⟩ := hThere_iff.1 hth
  have hn4 : args.size = 4 := hn
  obtain ⟨a0, a1, a2, a3, rfl⟩ : ∃ a0 a1 a2 a3, args = #[a0, a1, a2, a3] := by
    obtain ⟨l⟩ := args
    match l, hn4 with
    | [a, b, c, d], _ => exact ⟨a, b, c, d, rfl⟩
  have r0 := ha 0 _ a0 rfl rfl
  have r1 := (ha 1 _ a1 rfl rfl).int_of
  have r2 := (ha 2 _ a2 rfl rfl).int_of
  have r3 := (ha 3 _ a3 rfl rfl).int_of
  subst r1 r2 r3
  obtain ⟨arr, rfl, hsz, hin⟩ := r0.agg_of
  have hsz2 : arr.size = 2 := hsz
  obtain ⟨c0, c1, rfl⟩ : ∃ c0 c1, arr = #[c0, c1] := by
    obtain ⟨l⟩ := arr
    match l, hsz2 with
    | [a, b], _ => exact ⟨a, b, rfl⟩
  have q0 := (hin 0 _ c0 rfl rfl).int_of
  have q1 := hin 1 _ c1 rfl rfl
  subst q0
  have hne : rs L ≠ [] := fun e => by have := congrArg List.length e; rw [rs_len] at this; simp at this; rw [this] at t2; simp at t2; omega
  obtain ⟨b0, o0, cap, us, rfl, hul, hcap, hus, hur⟩ := list_in q1 hne (fun x hx => (rs_cells L x hx).1)
  rw [rs_len] at hul hcap
  have hk := (ok54 n o s (rs L) ⟨⟨L, rfl, hl, hL⟩, hq.1, hq.2.1⟩).2
  rw [rs_len]
  refine (rput_calls n o s v L b0 o0 cap w us hl (fun l h => (hL l h).1) hul ?_ hcap (fun j u hj => (hus j u hj).2) (fun j u l h1 h2 => rowV_of (hur j (.list 1 (is l)) u (by unfold rs; rw [List.getElem?_map, h2]; rfl) h1) hS) ⟨t1, t2⟩ ⟨t3, t4⟩ ⟨hv0, hv1⟩ ?_).mono ?_
  · exact hS _ _ (hus 0 _ (List.getElem?_eq_getElem (by rw [hul]; omega))).1
  · have hcl : ∀ b j, b < w.heap.size → ((w.alloc (.cells #[.int .i64 n, .slice (some ⟨b0, o0, none⟩) L.length cap] 43)).alloc (.cells #[.int .i64 0, .slice none 0 0] 43)).cell? ⟨b, j, none⟩ = w.cell? ⟨b, j, none⟩ := fun b j hb =>
      (World.cell?_alloc_past _ _ _ (by simp; omega)).trans (World.cell?_alloc_past _ _ _ hb)
    have hk := hk S _ #[.agg #[.int .i64 n, .slice (some ⟨b0, o0, none⟩) L.length cap], .int .i64 o, .int .i64 s] (fun b j hb => by have := hS b j hb; simp; omega) (glOk_keep hS hcl hgl) rfl (fun i c u hc hu => ?_)
    · refine hk.mono ?_
      rintro e w' ⟨u, rfl, hr, hb⟩
      rw [rowsOf_rs, hth] at hr
      have := hr.bool_of
      subst this
      exact ⟨rfl, by simpa using hb⟩
    · have hm : ∀ x u, RelT S w x u → RelT S ((w.alloc (.cells #[.int .i64 n, .slice (some ⟨b0, o0, none⟩) L.length cap] 43)).alloc (.cells #[.int .i64 0, .slice none 0 0] 43)) x u := fun x u h => h.mono (fun _ _ h => h) (fun b j hb => hcl b j (hS _ _ hb))
      match i with
      | 0 =>
        simp at hc hu; subst hc hu
        have := hm _ _ (ha 0 _ _ rfl rfl)
        rw [rs_len] at this
        exact this
      | 1 => simp at hc hu; subst hc hu; exact .int _ _
      | 2 => simp at hc hu; subst hc hu; exact .int _ _
      | i + 3 => simp at hc
  · rintro e w' ⟨hd, hs', rfl, h1, h2, hb⟩
    have hlen : (hSet L o s v).length = L.length := by unfold hSet; rw [List.length_set]
    rw [← hlen] at h1
    refine ⟨_, rfl, .tup _ _ rfl fun i c u hc hu => ?_, hb⟩
    match i with
    | 0 =>
      simp at hc hu; subst hc hu
      refine .agg _ _ rfl fun i c u hc hu => ?_
      match i with
      | 0 => simp at hc hu; subst hc hu; exact .int _ _
      | 1 => simp at hc hu; subst hc hu; exact rel_rows h1 h2
      | i + 2 => simp at hc
    | 1 => simp at hc hu; subst hc hu; exact .bool _
    | i + 2 => simp at hc
theorem rput_no (n o s v : Int) (L : List (List Int)) (hl : L.length ≤ 1048576) (hL : ∀ l ∈ L, l.length ≤ 1048576 ∧ ∀ n ∈ l, I64 n) (hq : I64 o ∧ I64 s ∧ I64 v) (hh : hPutOk L o s v = false) :
    FnOk Tryd.prog tgl 20 [.agg [.int .i64 n, .list 1 (rs L)], .int .i64 o, .int .i64 s, .int .i64 v] (.tup [.agg [.int .i64 n, .list 1 (rs L)], .bool false]) := by
  refine fn_ok (Γ := H6) env_H6 Tryd.func20 low20 ?_
  have hq1 : IsH (rs L) ∧ I64 o ∧ I64 s := ⟨⟨L, rfl, hl, hL⟩, hq.1, hq.2.1⟩
  have hc : ∀ (a : hThere L o s = true) (b : 0 ≤ v), v ≤ L.length → False := fun a b c => by
    unfold hPutOk at hh
    rw [a, decide_eq_true b, decide_eq_true c] at hh; cases hh
  conv => whnf
  repeat' (first
    | (refine brK_true rfl ?_; conv => whnf)
    | (refine brK_false rfl ?_; conv => whnf)
    | (refine brK_true (by assumption) ?_; conv => whnf)
    | (refine brK_false (by assumption) ?_; conv => whnf)
    | (refine brK_true ?_ ?_; (focus (simp only [List.length_nil, fx, rs_len, rowsOf_rs] <;> omega)); conv => whnf)
    | (refine brK_false ?_ ?_; (focus (simp only [List.length_nil, fx, rs_len, rowsOf_rs] <;> omega)); conv => whnf)
    | ((refine brK_of (fun h => ?_) (fun h => ?_)) <;> (have h2 := h; (try simp only [List.length_nil, fx, rs_len, rowsOf_rs] at h2); conv => whnf))
    | (refine reqK_of ?_ ?_; (focus (first | decide | omega | assumption | (simp only [List.length_nil, fx, rs_len, rowsOf_rs] <;> omega) | (simp [keyNew, sameKey, kEq] <;> omega))); conv => whnf)
    | (refine reqK_of ?_ ?_; rotate_left; (conv => whnf); rotate_left)
    | (refine nth_us ?_ ?_ ?_; (focus (first | omega | (simp only [List.length_nil, fx, rs_len, rowsOf_rs] <;> omega))); (focus (first | omega | (simp only [List.length_nil, fx, rs_len, rowsOf_rs] <;> omega))); conv => whnf)
    | (refine nth_is ?_ ?_ ?_; (focus (first | omega | (simp only [List.length_nil, fx, rs_len, rowsOf_rs] <;> omega))); (focus (first | omega | (simp only [List.length_nil, fx, rs_len, rowsOf_rs] <;> omega))); conv => whnf)
    | (refine nth_bs ?_ ?_ ?_; (focus (first | omega | (simp only [List.length_nil, fx, rs_len, rowsOf_rs] <;> omega))); (focus (first | omega | (simp only [List.length_nil, fx, rs_len, rowsOf_rs] <;> omega))); conv => whnf))
  all_goals (refine hc ?_ ?_ ?_ <;> assumption)
theorem ok20 (n o s v : Int) (xs : List T) (hq : IsH xs ∧ I64 o ∧ I64 s ∧ I64 v) : FnOk Tryd.prog tgl 20 [.agg [.int .i64 n, .list 1 xs], .int .i64 o, .int .i64 s, .int .i64 v] (hPut n (rowsOf xs) o s v) := by
  obtain ⟨⟨L, rfl, hl, hL⟩, hq⟩ := hq
  rw [rowsOf_rs]
  unfold hPut
  cases hh : hPutOk L o s v
  · rw [if_neg (by decide)]; exact rput_no n o s v L hl hL hq hh
  · rw [if_pos rfl]; exact rput_yes n o s v L hl hL hq hh (rput_no 0 0 0 0 [] (by decide) (fun l h => by cases h) ⟨⟨by decide, by decide⟩, ⟨by decide, by decide⟩, ⟨by decide, by decide⟩⟩ rfl).1
open Classical in
noncomputable def c20 : List T → Ans
  | [.agg [.int .i64 n, .list 1 xs], .int .i64 o, .int .i64 s, .int .i64 v] => .req (IsH xs ∧ I64 o ∧ I64 s ∧ I64 v) (hPut n (rowsOf xs) o s v)
  | _ => .no
theorem got20 {vs : List T} {x : T} (h : Got (c20 vs) x) : FnOk Tryd.prog tgl 20 vs x := by
  unfold c20 at h
  split at h
  · obtain ⟨hq, e⟩ := got_req h; rw [e]; exact ok20 _ _ _ _ _ hq
  · exact (got_no h).elim
theorem nogl20 (vs : List T) (p : Prop) (d : Decidable p) (sz : Nat) (xs : List T) (h : c20 vs = @Ans.gl p d sz xs) : False := by
  unfold c20 at h
  split at h <;> cases h
theorem pk20 (vs : List T) (p : Prop) (d : Decidable p) (x : T) (h : c20 vs = @Ans.pk p d x) (hp : p) : FnOk Tryd.prog tgl 20 vs x := by
  unfold c20 at h
  split at h
  · cases h
  · cases h
end Go.Nx
end
section
set_option linter.unusedVariables false
set_option linter.unusedSimpArgs false
set_option maxRecDepth 20000
set_option maxHeartbeats 4000000
namespace Go.Nx
open Go Go.RowKit Go.Proofs

noncomputable def lH22 : List (Nat × (List T → Ans)) := (17, c17) :: (9, c9) :: (19, c19) :: (10, c10) :: (20, c20) :: (21, c21) :: (22, c22) :: (23, c23) :: (24, c24) :: (25, c25) :: (7, c7) :: (27, c27) :: (29, c29) :: (30, c30) :: lH19
noncomputable def iH22 : List (Nat × Pt) := iH19
noncomputable abbrev H22 : Env := En tgl lH22 iH22
theorem env_H22 : EnvOk Tryd.prog H22 := (env_fn (env_fn (env_fn (env_fn (env_fn (env_fn (env_fn (env_fn (env_fn (env_fn (env_fn (env_fn (env_fn (env_fn env_H19 (fun _ _ => got30) (fun vs p d sz xs h _ => (nogl30 vs p d sz xs h).elim) pk30) (fun _ _ => got29) (fun vs p d sz xs h _ => (nogl29 vs p d sz xs h).elim) pk29) (fun _ _ => got27) (fun vs p d sz xs h _ => (nogl27 vs p d sz xs h).elim) pk27) (fun _ _ => got7) (fun vs p d sz xs h _ => (nogl7 vs p d sz xs h).elim) pk7) (fun _ _ => got25) (fun vs p d sz xs h _ => (nogl25 vs p d sz xs h).elim) pk25) (fun _ _ => got24) (fun vs p d sz xs h _ => (nogl24 vs p d sz xs h).elim) pk24) (fun _ _ => got23) (fun vs p d sz xs h _ => (nogl23 vs p d sz xs h).elim) pk23) (fun _ _ => got22) (fun vs p d sz xs h _ => (nogl22 vs p d sz xs h).elim) pk22) (fun _ _ => got21) (fun vs p d sz xs h _ => (nogl21 vs p d sz xs h).elim) pk21) (fun _ _ => got20) (fun vs p d sz xs h _ => (nogl20 vs p d sz xs h).elim) pk20) (fun _ _ => got10) (fun vs p d sz xs h _ => (nogl10 vs p d sz xs h).elim) pk10) (fun _ _ => got19) (fun vs p d sz xs h _ => (nogl19 vs p d sz xs h).elim) pk19) (fun _ _ => got9) (fun vs p d sz xs h _ => (nogl9 vs p d sz xs h).elim) pk9) (fun _ _ => got17) (fun vs p d sz xs h _ => (nogl17 vs p d sz xs h).elim) pk17)
theorem put_form (n : Int) (L : List (List Int)) (o s v : Int) (h : IsH (rs L)) (hv : I64 v) : ∃ K b, hPut n L o s v = .tup [.agg [.int .i64 n, .list 1 (rs K)], .bool b] ∧ IsH (rs K) := by
  unfold hPut
  cases hh : hPutOk L o s v with
  | false => exact ⟨L, false, if_neg (by decide), h⟩
  | true =>
    refine ⟨hSet L o s v, true, if_pos rfl, ?_⟩
    obtain ⟨L', e, h1, h2⟩ := h
    obtain rfl : L = L' := by have := congrArg rowsOf e; rwa [rowsOf_rs, rowsOf_rs] at this
    unfold hPutOk at hh
    rw [Bool.and_eq_true] at hh
    obtain ⟨t1, t2, _⟩ := hThere_iff.1 hh.1
    have hr := h2 _ (row_mem t1 t2)
    refine ⟨_, rfl, by unfold hSet; rw [List.length_set]; exact h1, fun l hl => ?_⟩
    rcases List.mem_or_eq_of_mem_set hl with h | rfl
    · exact h2 l h
    · rw [List.length_set]
      refine ⟨hr.1, fun x hx => ?_⟩
      rcases List.mem_or_eq_of_mem_set hx with h | rfl
      · exact hr.2 x h
      · exact hv
theorem al_form (n : Int) (L : List (List Int)) (most : Int) (h : IsH (rs L)) : ∃ K a e, hAl n L most = .tup [.agg [.int .i64 n, .list 1 (rs K)], .int .i64 a, .int .i64 e] ∧ IsH (rs K) := by
  unfold hAl
  cases hr : hRight n L with
  | false => exact ⟨L, 0, 1, if_neg (by decide), h⟩
  | true =>
    by_cases hh : (L.length : Int) < most ∧ L.length < 64
    · refine ⟨_, _, _, (if_pos rfl).trans (if_pos hh), ?_⟩
      obtain ⟨L', e, h1, h2⟩ := h
      obtain rfl : L = L' := by have := congrArg rowsOf e; rwa [rowsOf_rs, rowsOf_rs] at this
      have hn := (right_le hr).1
      refine ⟨_, rfl, by rw [List.length_append, List.length_singleton]; omega, fun l hl => ?_⟩
      rcases List.mem_append.1 hl with h | h
      · exact h2 l h
      · rw [List.mem_singleton] at h; subst h
        refine ⟨by rw [List.length_replicate]; omega, fun x hx => ?_⟩
        rw [(List.mem_replicate.1 hx).2]; exact ⟨by decide, by decide⟩
    · exact ⟨L, 0, 4, (if_pos rfl).trans (if_neg hh), h⟩
theorem ans_form (t : ByteArray) (ht : t.size ≤ 1048576) : ∃ m K e, hAns t = .tup [.agg [.int .i64 m, .list 1 (rs K)], .int .i64 e] ∧ IsH (rs K) := by
  unfold hAns
  cases hp : hP t with
  | true =>
    refine ⟨_, _, _, if_pos rfl, ?_⟩
    have := isH_parts ht (spl 124 t.data.toList).tail.length
    rw [List.take_length] at this
    exact this
  | false => exact ⟨_, _, _, if_neg (by decide), isH_nil⟩
theorem hSame_refl (n : Int) (L : List (List Int)) : hSame n n L L = true := by unfold hSame eqLs; simp
theorem ok5 (n m : Int) (xs ys : List T) (o s v most : Int) (t : ByteArray) (hq : (IsH xs ∧ IsH ys) ∧ (I64 o ∧ I64 s ∧ I64 v ∧ I64 most) ∧ t.size ≤ 1048576) : FnOk Tryd.prog tgl 5 [.agg [.int .i64 n, .list 1 xs], .agg [.int .i64 m, .list 1 ys], .int .i64 o, .int .i64 s, .int .i64 v, .int .i64 most, .str t] (.bool true) := by
  refine fn_ok (Γ := H22) env_H22 Tryd.func5 low5 ?_
  obtain ⟨⟨⟨L, rfl, hl, hL⟩, K, rfl, hk, hK⟩, ⟨ho, hs, hv, hm⟩, ht⟩ := hq
  have hA : IsH (rs L) := ⟨L, rfl, hl, hL⟩
  have hB : IsH (rs K) := ⟨K, rfl, hk, hK⟩
  have q1 : IsH (rs L) ∧ I64 o ∧ I64 s := ⟨hA, ho, hs⟩
  have q2 : IsH (rs L) ∧ I64 o ∧ I64 s ∧ I64 v := ⟨hA, ho, hs, hv⟩
  have q3 : IsH (rs L) ∧ I64 most := ⟨hA, hm⟩
  have q4 : IsH (rs L) ∧ IsH (rs K) := ⟨hA, hB⟩
  obtain ⟨P1, pb, hp, hP1⟩ := put_form n L o s v hA hv
  obtain ⟨P2, a2, e2, ha, hP2⟩ := al_form n L most hA
  obtain ⟨m3, P3, e3, h3, hP3⟩ := ans_form t ht
  have d3 : dAns t = .tup [.agg [.int .i64 m3, .list 1 (rs P3)], .int .i64 e3] := (dAns_h t).trans h3
  have p1 : IsH (rs P1) ∧ IsH (rs P1) := ⟨hP1, hP1⟩
  have p2 : IsH (rs P2) ∧ IsH (rs P2) := ⟨hP2, hP2⟩
  have p3 : IsH (rs P3) ∧ IsH (rs P3) := ⟨hP3, hP3⟩
  have s1 : hSame n n (rowsOf (rs P1)) (rowsOf (rs P1)) = true := hSame_refl _ _
  have s2 : hSame n n (rowsOf (rs P2)) (rowsOf (rs P2)) = true := hSame_refl _ _
  have s3 : hSame m3 m3 (rowsOf (rs P3)) (rowsOf (rs P3)) = true := hSame_refl _ _
  have b1 : eqB pb pb = true := by rw [eqB_def]; simp
  have bb : ∀ b : Bool, eqB b b = true := fun b => by rw [eqB_def]; simp
  conv => whnf
  repeat' (first
    | (refine brK_true rfl ?_; conv => whnf)
    | (refine brK_false rfl ?_; conv => whnf)
    | (refine brK_true (by assumption) ?_; conv => whnf)
    | (refine brK_false (by assumption) ?_; conv => whnf)
    | (refine brK_true ?_ ?_; (focus (simp only [List.length_nil, fx, eqI_self, bb, s1, s2, s3] <;> omega)); conv => whnf)
    | (refine brK_false ?_ ?_; (focus (simp only [List.length_nil, fx, eqI_self, bb, s1, s2, s3] <;> omega)); conv => whnf)
    | ((refine brK_of (fun h => ?_) (fun h => ?_)) <;> (have h2 := h; (try simp only [List.length_nil, fx, eqI_self, bb, s1, s2, s3] at h2); conv => whnf))
    | (refine reqK_of ?_ ?_; (focus (first | decide | omega | assumption | (simp only [List.length_nil, fx, eqI_self, bb, s1, s2, s3] <;> omega) | (simp [keyNew, sameKey, kEq] <;> omega))); conv => whnf)
    | (refine reqK_of ?_ ?_; rotate_left; (conv => whnf); rotate_left)
    | (refine nth_us ?_ ?_ ?_; (focus (first | omega | (simp only [List.length_nil, fx, eqI_self, bb, s1, s2, s3] <;> omega))); (focus (first | omega | (simp only [List.length_nil, fx, eqI_self, bb, s1, s2, s3] <;> omega))); conv => whnf)
    | (refine nth_is ?_ ?_ ?_; (focus (first | omega | (simp only [List.length_nil, fx, eqI_self, bb, s1, s2, s3] <;> omega))); (focus (first | omega | (simp only [List.length_nil, fx, eqI_self, bb, s1, s2, s3] <;> omega))); conv => whnf)
    | (refine nth_bs ?_ ?_ ?_; (focus (first | omega | (simp only [List.length_nil, fx, eqI_self, bb, s1, s2, s3] <;> omega))); (focus (first | omega | (simp only [List.length_nil, fx, eqI_self, bb, s1, s2, s3] <;> omega))); conv => whnf))
  rw [rowsOf_rs, hp]
  conv => whnf
  repeat' (first
    | (refine brK_true rfl ?_; conv => whnf)
    | (refine brK_false rfl ?_; conv => whnf)
    | (refine brK_true (by assumption) ?_; conv => whnf)
    | (refine brK_false (by assumption) ?_; conv => whnf)
    | (refine brK_true ?_ ?_; (focus (simp only [List.length_nil, fx, eqI_self, bb, s1, s2, s3] <;> omega)); conv => whnf)
    | (refine brK_false ?_ ?_; (focus (simp only [List.length_nil, fx, eqI_self, bb, s1, s2, s3] <;> omega)); conv => whnf)
    | ((refine brK_of (fun h => ?_) (fun h => ?_)) <;> (have h2 := h; (try simp only [List.length_nil, fx, eqI_self, bb, s1, s2, s3] at h2); conv => whnf))
    | (refine reqK_of ?_ ?_; (focus (first | decide | omega | assumption | (simp only [List.length_nil, fx, eqI_self, bb, s1, s2, s3] <;> omega) | (simp [keyNew, sameKey, kEq] <;> omega))); conv => whnf)
    | (refine reqK_of ?_ ?_; rotate_left; (conv => whnf); rotate_left)
    | (refine nth_us ?_ ?_ ?_; (focus (first | omega | (simp only [List.length_nil, fx, eqI_self, bb, s1, s2, s3] <;> omega))); (focus (first | omega | (simp only [List.length_nil, fx, eqI_self, bb, s1, s2, s3] <;> omega))); conv => whnf)
    | (refine nth_is ?_ ?_ ?_; (focus (first | omega | (simp only [List.length_nil, fx, eqI_self, bb, s1, s2, s3] <;> omega))); (focus (first | omega | (simp only [List.length_nil, fx, eqI_self, bb, s1, s2, s3] <;> omega))); conv => whnf)
    | (refine nth_bs ?_ ?_ ?_; (focus (first | omega | (simp only [List.length_nil, fx, eqI_self, bb, s1, s2, s3] <;> omega))); (focus (first | omega | (simp only [List.length_nil, fx, eqI_self, bb, s1, s2, s3] <;> omega))); conv => whnf))
  rw [rowsOf_rs, hp]
  conv => whnf
  repeat' (first
    | (refine brK_true rfl ?_; conv => whnf)
    | (refine brK_false rfl ?_; conv => whnf)
    | (refine brK_true (by assumption) ?_; conv => whnf)
    | (refine brK_false (by assumption) ?_; conv => whnf)
    | (refine brK_true ?_ ?_; (focus (simp only [List.length_nil, fx, eqI_self, bb, s1, s2, s3] <;> omega)); conv => whnf)
    | (refine brK_false ?_ ?_; (focus (simp only [List.length_nil, fx, eqI_self, bb, s1, s2, s3] <;> omega)); conv => whnf)
    | ((refine brK_of (fun h => ?_) (fun h => ?_)) <;> (have h2 := h; (try simp only [List.length_nil, fx, eqI_self, bb, s1, s2, s3] at h2); conv => whnf))
    | (refine reqK_of ?_ ?_; (focus (first | decide | omega | assumption | (simp only [List.length_nil, fx, eqI_self, bb, s1, s2, s3] <;> omega) | (simp [keyNew, sameKey, kEq] <;> omega))); conv => whnf)
    | (refine reqK_of ?_ ?_; rotate_left; (conv => whnf); rotate_left)
    | (refine nth_us ?_ ?_ ?_; (focus (first | omega | (simp only [List.length_nil, fx, eqI_self, bb, s1, s2, s3] <;> omega))); (focus (first | omega | (simp only [List.length_nil, fx, eqI_self, bb, s1, s2, s3] <;> omega))); conv => whnf)
    | (refine nth_is ?_ ?_ ?_; (focus (first | omega | (simp only [List.length_nil, fx, eqI_self, bb, s1, s2, s3] <;> omega))); (focus (first | omega | (simp only [List.length_nil, fx, eqI_self, bb, s1, s2, s3] <;> omega))); conv => whnf)
    | (refine nth_bs ?_ ?_ ?_; (focus (first | omega | (simp only [List.length_nil, fx, eqI_self, bb, s1, s2, s3] <;> omega))); (focus (first | omega | (simp only [List.length_nil, fx, eqI_self, bb, s1, s2, s3] <;> omega))); conv => whnf))
  rw [rowsOf_rs, ha]
  conv => whnf
  repeat' (first
    | (refine brK_true rfl ?_; conv => whnf)
    | (refine brK_false rfl ?_; conv => whnf)
    | (refine brK_true (by assumption) ?_; conv => whnf)
    | (refine brK_false (by assumption) ?_; conv => whnf)
    | (refine brK_true ?_ ?_; (focus (simp only [List.length_nil, fx, eqI_self, bb, s1, s2, s3] <;> omega)); conv => whnf)
    | (refine brK_false ?_ ?_; (focus (simp only [List.length_nil, fx, eqI_self, bb, s1, s2, s3] <;> omega)); conv => whnf)
    | ((refine brK_of (fun h => ?_) (fun h => ?_)) <;> (have h2 := h; (try simp only [List.length_nil, fx, eqI_self, bb, s1, s2, s3] at h2); conv => whnf))
    | (refine reqK_of ?_ ?_; (focus (first | decide | omega | assumption | (simp only [List.length_nil, fx, eqI_self, bb, s1, s2, s3] <;> omega) | (simp [keyNew, sameKey, kEq] <;> omega))); conv => whnf)
    | (refine reqK_of ?_ ?_; rotate_left; (conv => whnf); rotate_left)
    | (refine nth_us ?_ ?_ ?_; (focus (first | omega | (simp only [List.length_nil, fx, eqI_self, bb, s1, s2, s3] <;> omega))); (focus (first | omega | (simp only [List.length_nil, fx, eqI_self, bb, s1, s2, s3] <;> omega))); conv => whnf)
    | (refine nth_is ?_ ?_ ?_; (focus (first | omega | (simp only [List.length_nil, fx, eqI_self, bb, s1, s2, s3] <;> omega))); (focus (first | omega | (simp only [List.length_nil, fx, eqI_self, bb, s1, s2, s3] <;> omega))); conv => whnf)
    | (refine nth_bs ?_ ?_ ?_; (focus (first | omega | (simp only [List.length_nil, fx, eqI_self, bb, s1, s2, s3] <;> omega))); (focus (first | omega | (simp only [List.length_nil, fx, eqI_self, bb, s1, s2, s3] <;> omega))); conv => whnf))
  rw [rowsOf_rs, ha]
  conv => whnf
  repeat' (first
    | (refine brK_true rfl ?_; conv => whnf)
    | (refine brK_false rfl ?_; conv => whnf)
    | (refine brK_true (by assumption) ?_; conv => whnf)
    | (refine brK_false (by assumption) ?_; conv => whnf)
    | (refine brK_true ?_ ?_; (focus (simp only [List.length_nil, fx, eqI_self, bb, s1, s2, s3] <;> omega)); conv => whnf)
    | (refine brK_false ?_ ?_; (focus (simp only [List.length_nil, fx, eqI_self, bb, s1, s2, s3] <;> omega)); conv => whnf)
    | ((refine brK_of (fun h => ?_) (fun h => ?_)) <;> (have h2 := h; (try simp only [List.length_nil, fx, eqI_self, bb, s1, s2, s3] at h2); conv => whnf))
    | (refine reqK_of ?_ ?_; (focus (first | decide | omega | assumption | (simp only [List.length_nil, fx, eqI_self, bb, s1, s2, s3] <;> omega) | (simp [keyNew, sameKey, kEq] <;> omega))); conv => whnf)
    | (refine reqK_of ?_ ?_; rotate_left; (conv => whnf); rotate_left)
    | (refine nth_us ?_ ?_ ?_; (focus (first | omega | (simp only [List.length_nil, fx, eqI_self, bb, s1, s2, s3] <;> omega))); (focus (first | omega | (simp only [List.length_nil, fx, eqI_self, bb, s1, s2, s3] <;> omega))); conv => whnf)
    | (refine nth_is ?_ ?_ ?_; (focus (first | omega | (simp only [List.length_nil, fx, eqI_self, bb, s1, s2, s3] <;> omega))); (focus (first | omega | (simp only [List.length_nil, fx, eqI_self, bb, s1, s2, s3] <;> omega))); conv => whnf)
    | (refine nth_bs ?_ ?_ ?_; (focus (first | omega | (simp only [List.length_nil, fx, eqI_self, bb, s1, s2, s3] <;> omega))); (focus (first | omega | (simp only [List.length_nil, fx, eqI_self, bb, s1, s2, s3] <;> omega))); conv => whnf))
  rw [h3]
  conv => whnf
  repeat' (first
    | (refine brK_true rfl ?_; conv => whnf)
    | (refine brK_false rfl ?_; conv => whnf)
    | (refine brK_true (by assumption) ?_; conv => whnf)
    | (refine brK_false (by assumption) ?_; conv => whnf)
    | (refine brK_true ?_ ?_; (focus (simp only [List.length_nil, fx, eqI_self, bb, s1, s2, s3] <;> omega)); conv => whnf)
    | (refine brK_false ?_ ?_; (focus (simp only [List.length_nil, fx, eqI_self, bb, s1, s2, s3] <;> omega)); conv => whnf)
    | ((refine brK_of (fun h => ?_) (fun h => ?_)) <;> (have h2 := h; (try simp only [List.length_nil, fx, eqI_self, bb, s1, s2, s3] at h2); conv => whnf))
    | (refine reqK_of ?_ ?_; (focus (first | decide | omega | assumption | (simp only [List.length_nil, fx, eqI_self, bb, s1, s2, s3] <;> omega) | (simp [keyNew, sameKey, kEq] <;> omega))); conv => whnf)
    | (refine reqK_of ?_ ?_; rotate_left; (conv => whnf); rotate_left)
    | (refine nth_us ?_ ?_ ?_; (focus (first | omega | (simp only [List.length_nil, fx, eqI_self, bb, s1, s2, s3] <;> omega))); (focus (first | omega | (simp only [List.length_nil, fx, eqI_self, bb, s1, s2, s3] <;> omega))); conv => whnf)
    | (refine nth_is ?_ ?_ ?_; (focus (first | omega | (simp only [List.length_nil, fx, eqI_self, bb, s1, s2, s3] <;> omega))); (focus (first | omega | (simp only [List.length_nil, fx, eqI_self, bb, s1, s2, s3] <;> omega))); conv => whnf)
    | (refine nth_bs ?_ ?_ ?_; (focus (first | omega | (simp only [List.length_nil, fx, eqI_self, bb, s1, s2, s3] <;> omega))); (focus (first | omega | (simp only [List.length_nil, fx, eqI_self, bb, s1, s2, s3] <;> omega))); conv => whnf))
  rw [d3]
  conv => whnf
  repeat' (first
    | (refine brK_true rfl ?_; conv => whnf)
    | (refine brK_false rfl ?_; conv => whnf)
    | (refine brK_true (by assumption) ?_; conv => whnf)
    | (refine brK_false (by assumption) ?_; conv => whnf)
    | (refine brK_true ?_ ?_; (focus (simp only [List.length_nil, fx, eqI_self, bb, s1, s2, s3] <;> omega)); conv => whnf)
    | (refine brK_false ?_ ?_; (focus (simp only [List.length_nil, fx, eqI_self, bb, s1, s2, s3] <;> omega)); conv => whnf)
    | ((refine brK_of (fun h => ?_) (fun h => ?_)) <;> (have h2 := h; (try simp only [List.length_nil, fx, eqI_self, bb, s1, s2, s3] at h2); conv => whnf))
    | (refine reqK_of ?_ ?_; (focus (first | decide | omega | assumption | (simp only [List.length_nil, fx, eqI_self, bb, s1, s2, s3] <;> omega) | (simp [keyNew, sameKey, kEq] <;> omega))); conv => whnf)
    | (refine reqK_of ?_ ?_; rotate_left; (conv => whnf); rotate_left)
    | (refine nth_us ?_ ?_ ?_; (focus (first | omega | (simp only [List.length_nil, fx, eqI_self, bb, s1, s2, s3] <;> omega))); (focus (first | omega | (simp only [List.length_nil, fx, eqI_self, bb, s1, s2, s3] <;> omega))); conv => whnf)
    | (refine nth_is ?_ ?_ ?_; (focus (first | omega | (simp only [List.length_nil, fx, eqI_self, bb, s1, s2, s3] <;> omega))); (focus (first | omega | (simp only [List.length_nil, fx, eqI_self, bb, s1, s2, s3] <;> omega))); conv => whnf)
    | (refine nth_bs ?_ ?_ ?_; (focus (first | omega | (simp only [List.length_nil, fx, eqI_self, bb, s1, s2, s3] <;> omega))); (focus (first | omega | (simp only [List.length_nil, fx, eqI_self, bb, s1, s2, s3] <;> omega))); conv => whnf))
  rw [eqS_iff.2 rfl]
open Classical in
noncomputable def c5 : List T → Ans
  | [.agg [.int .i64 n, .list 1 xs], .agg [.int .i64 m, .list 1 ys], .int .i64 o, .int .i64 s, .int .i64 v, .int .i64 most, .str t] => .req ((IsH xs ∧ IsH ys) ∧ (I64 o ∧ I64 s ∧ I64 v ∧ I64 most) ∧ t.size ≤ 1048576) (.bool true)
  | _ => .no
theorem got5 {vs : List T} {x : T} (h : Got (c5 vs) x) : FnOk Tryd.prog tgl 5 vs x := by
  unfold c5 at h
  split at h
  · obtain ⟨hq, e⟩ := got_req h; rw [e]; exact ok5 _ _ _ _ _ _ _ _ _ hq
  · exact (got_no h).elim
theorem nogl5 (vs : List T) (p : Prop) (d : Decidable p) (sz : Nat) (xs : List T) (h : c5 vs = @Ans.gl p d sz xs) : False := by
  unfold c5 at h
  split at h <;> cases h
theorem pk5 (vs : List T) (p : Prop) (d : Decidable p) (x : T) (h : c5 vs = @Ans.pk p d x) (hp : p) : FnOk Tryd.prog tgl 5 vs x := by
  unfold c5 at h
  split at h
  · cases h
  · cases h
end Go.Nx
end
