/-
  A part of the machine, and of what is walked.
-/
import Derived.Test.YtdfjedkpclebgaaDoorP5
import Derived.WalkSmall
section
set_option linter.unusedVariables false
set_option linter.unusedSimpArgs false
namespace Go.Nx
open Go.RowKit
theorem notIn_spec {k : Nat} : ∀ {l : List Nat}, notIn k l = true → k ∉ l := by
  intro l
  induction l with
  | nil => intro _ h; cases h
  | cons j l ih =>
    intro h
    simp only [notIn] at h
    split at h
    · cases h
    · rename_i e
      intro hm
      rcases List.mem_cons.1 hm with rfl | hm
      · rw [Nat.beq_refl] at e; cases e
      · exact ih h hm
theorem notIn_mk {j : Nat} : ∀ {kk : List Nat}, j ∉ kk → notIn j kk = true := by
  intro kk
  induction kk with
  | nil => intro _; rfl
  | cons x r ih =>
    intro h
    simp only [List.mem_cons, not_or] at h
    simp only [notIn]
    have : Nat.beq x j = false := by rw [← Bool.not_eq_true, Nat.beq_eq]; exact fun e => h.1 e.symm
    rw [this]; exact ih h.2
theorem notIn_false {j : Nat} {kk : List Nat} (h : notIn j kk = false) : j ∈ kk := by
  by_cases e : j ∈ kk
  · exact e
  · rw [notIn_mk e] at h; cases h
theorem allIn_spec {m : List Nat} : ∀ {l : List Nat}, allIn m l = true → ∀ k ∈ l, k ∈ m
  | [], _, k, hk => by cases hk
  | j :: r, h, k, hk => by
    simp only [allIn] at h
    split at h
    · cases h
    · rename_i e
      rcases List.mem_cons.1 hk with rfl | hk
      · exact notIn_false e
      · exact allIn_spec h k hk
theorem ownClosed_spec {m : List Nat} : ∀ {own : Own}, ownClosed m own = true → ∀ k b, look k own = some b → k ∈ m → ∀ j ∈ bRefs b, j ∈ m
  | [], _, k, b, hk, _ => by simp [look] at hk
  | p :: r, h, k, b, hk, hm => by
    simp only [ownClosed] at h
    simp only [look] at hk
    split at h
    · rename_i e
      split at hk
      · rename_i e2
        subst e2
        exact (notIn_spec e hm).elim
      · exact ownClosed_spec h k b hk hm
    · split at h
      · rename_i e2
        split at hk
        · cases hk; exact allIn_spec e2
        · exact ownClosed_spec h k b hk hm
      · cases h
theorem mem_vsRefs {c : V} {k : Nat} : ∀ {cs : List V}, c ∈ cs → k ∈ vRefs c → k ∈ vsRefs cs
  | [], hc, _ => by cases hc
  | x :: r, hc, hk => by
    simp only [vsRefs, List.mem_append]
    rcases List.mem_cons.1 hc with rfl | hc
    · exact .inl hk
    · exact .inr (mem_vsRefs hc hk)
theorem mem_esRefs {e : T × V} {k : Nat} : ∀ {es : List (T × V)}, e ∈ es → k ∈ vRefs e.2 → k ∈ esRefs es
  | [], hc, _ => by cases hc
  | x :: r, hc, hk => by
    simp only [esRefs, List.mem_append]
    rcases List.mem_cons.1 hc with rfl | hc
    · exact .inl hk
    · exact .inr (mem_esRefs hc hk)

theorem RelV.lookAt {S : Cells} {w : World} {ρ : Infos} {own own' : Own} {v : V} {u : Value} (h : RelV S w ρ own v u) : (∀ k ∈ vRefs v, look k own' = look k own) → RelV S w ρ own' v u := by
  induction h with
  | t x v h => intro _; exact .t x v h
  | dead v => intro _; exact .dead v
  | ptr k off b h => intro hk; exact .ptr k off b (by rw [hk k (by simp [vRefs])]; exact h)
  | eptr k i j b h ad ha => intro hk; exact .eptr k i j b (by rw [hk k (by simp [vRefs])]; exact h) ad ha
  | sl k off len b h v hv => intro hk; exact .sl k off len b (by rw [hk k (by simp [vRefs])]; exact h) v hv
  | cl sz xs a h => intro _; exact .cl sz xs a h
  | ce a => intro _; exact .ce a
  | mp k b h => intro hk; exact .mp k b (by rw [hk k (by simp [vRefs])]; exact h)
  | fn f xs ys a b hn hm h h' ih ih' =>
    intro hk
    exact .fn f xs ys a b hn hm (fun i c v hc hv => ih i c v hc hv fun k hk' => hk k (by simp only [vRefs, List.mem_append]; exact .inl (mem_vsRefs (List.mem_of_getElem? hc) hk')))
      (fun i c v hc hv => ih' i c v hc hv fun k hk' => hk k (by simp only [vRefs, List.mem_append]; exact .inr (mem_vsRefs (List.mem_of_getElem? hc) hk')))
  | agg cs arr hn h ih => intro hk; exact .agg cs arr hn fun i c v hc hv => ih i c v hc hv fun k hk' => hk k (mem_vsRefs (List.mem_of_getElem? hc) hk')
  | tup cs arr hn h ih => intro hk; exact .tup cs arr hn fun i c v hc hv => ih i c v hc hv fun k hk' => hk k (mem_vsRefs (List.mem_of_getElem? hc) hk')
theorem RelB.lookAt {S : Cells} {w : World} {ρ : Infos} {own own' : Own} {k : Nat} {blk : Blk} (h : RelB S w ρ own k blk) (hk : ∀ k ∈ bRefs blk, look k own' = look k own) : RelB S w ρ own' k blk := by
  cases blk with
  | cells cs =>
    obtain ⟨arr, t, h1, h2, h3⟩ := h
    exact ⟨arr, t, h1, h2, fun i c v hc hv => (h3 i c v hc hv).lookAt fun k hk' => hk k (mem_vsRefs (List.mem_of_getElem? hc) hk')⟩
  | map nr es =>
    obtain ⟨h0, arr, n, h1, h2, h3⟩ := h
    refine ⟨h0, arr, n, h1, h2, fun i e m he hm => ⟨(h3 i e m he hm).1, (h3 i e m he hm).2.lookAt fun k hk' => ?_⟩⟩
    cases nr with
    | true =>
      obtain ⟨a, z, rfl⟩ := miB_ent (h0 rfl) he
      simp [vRefs] at hk'
    | false => exact hk k (mem_esRefs (List.mem_of_getElem? he) hk')
  | frz cs => exact h
  | lst sz ts m =>
    match m, h with
    | 0, h => exact h
    | 1, h => exact h
    | m + 2, h => exact h
  | gone => trivial


theorem look_mem {k : Nat} {b : Blk} : ∀ {own : Own}, look k own = some b → (k, b) ∈ own
  | [], h => by simp [look] at h
  | p :: r, h => by
    obtain ⟨j, c⟩ := p
    simp only [look] at h
    split at h
    · rename_i e; cases h; subst e; simp
    · exact List.mem_cons_of_mem _ (look_mem h)
theorem mem_look {k : Nat} : ∀ {own : Own}, k ∈ own.map (·.1) → ∃ b, look k own = some b
  | [], h => by simp at h
  | p :: r, h => by
    obtain ⟨j, c⟩ := p
    simp only [look]
    by_cases e : j = k
    · exact ⟨c, by simp [e]⟩
    · obtain ⟨b, hb⟩ := mem_look (k := k) (own := r) (by
        simp only [List.map_cons, List.mem_cons] at h
        rcases h with h | h
        · exact absurd h.symm e
        · exact h)
      exact ⟨b, by simp [e, hb]⟩
theorem framed {gl : Gl} {S S' : Cells} {w w' : World} {ρ ρ' : Infos} {own own1 : Own} {v : V} {u : Value} (hm : Mem gl S w ρ own) (hsub : ∀ k b, look k own1 = some b → look k own = some b)
    (g1 : Mem gl S' w' ρ' own1) (g2 : RelV S' w' ρ' own1 v u) (g3 : Keep (Claims ρ own1) w w') (g4 : ∀ b o, S b o → S' b o) (g5 : ∀ b o, S' b o → S b o ∨ Claims ρ own1 b o ∨ w.heap.size ≤ b) (g7 : ∀ k b, look k own1 = some b → ρ' k = ρ k) (hv : vRefs v = []) :
    Mem gl S' w' ρ own ∧ RelV S' w' ρ own v u ∧ ∀ b o, Claims ρ own1 b o → Claims ρ own b o := by
  have hcl : ∀ b o, Claims ρ own1 b o → Claims ρ own b o := fun b o ⟨k, blk, h1, h2⟩ => ⟨k, blk, hsub k blk h1, h2⟩
  have hCS : ∀ b o, Claims ρ own1 b o → ¬ S b o := fun b o hc hs => by
    obtain ⟨k, blk, h1, h2⟩ := hcl b o hc
    exact (hm.cl k blk h1 b o h2).2 hs
  have hle : OwnLe own1 own := fun k b h => ⟨b, hsub k b h, .refl b⟩
  have hrr : ∀ k b, look k own1 = some b → ρ k = ρ' k := fun k b h => (g7 k b h).symm
  refine ⟨hm.move (S' := S') (C := Claims ρ own1) g3 hCS g4 g1.lt (OwnLe.refl own) (fun _ _ _ => rfl) (fun k blk hk => ?_) hm.disj, ?_, hcl⟩
  · cases e : look k own1 with
    | none =>
      left
      refine ⟨hk, fun b o hc => ⟨fun ⟨k', blk', h1, h2⟩ => ?_, fun hs => ?_⟩⟩
      · have hne : k ≠ k' := fun e2 => by subst e2; rw [e] at h1; cases h1
        exact hm.disj k k' blk blk' hk (hsub k' blk' h1) hne b o hc h2
      · rcases g5 b o hs with h1 | ⟨k', blk', h1, h2⟩ | h1
        · exact (hm.cl k blk hk b o hc).2 h1
        · have hne : k ≠ k' := fun e2 => by subst e2; rw [e] at h1; cases h1
          exact hm.disj k k' blk blk' hk (hsub k' blk' h1) hne b o hc h2
        · have := (hm.cl k blk hk b o hc).1; omega
    | some b1 =>
      right
      have := hsub k b1 e
      rw [hk] at this
      cases this
      refine ⟨?_, fun b o hc => ?_⟩
      · exact RelB.mono (S := S') (C := fun _ _ => False) (own := own1) (ρ := ρ') (fun _ _ h => h) (Keep.refl _ _) (fun _ _ h => h.elim) g1.lt hle hrr e (fun _ _ _ h => h) (g1.blk k _ e)
      · rw [← g7 k _ e] at hc
        exact g1.cl k _ e b o hc
  · have h1 := RelV.mono (S := S') (C := fun _ _ => False) (S' := S') (w' := w') (ρ' := ρ) (own' := own) (fun _ _ h => h) (Keep.refl _ _) (fun _ _ h => h.elim) g1.lt hle hrr g2
    exact h1

section
variable {P : Program} {Γ : Env} {B : Base} {S : Cells} {ρ : Infos} {tm : List V} {own : Own} {a : Act} {w : World}
variable {o : Oper} {K : St → Log → Prop} {dr : Bool} {next : Act → World → Prop} {Q : Exit → Act → World → Prop}

structure Callee (S : Cells) (w : World) (ρ : Infos) (own : Own) (n : Nat) (first caps : List V) (u : Value) : Prop where
  ex : ∃ va vb, u = .func (.func n) va vb ∧ va.size = first.length ∧ vb.size = caps.length ∧
    (∀ (i : Nat) (c : V) (z : Value), first[i]? = some c → va[i]? = some z → RelV S w ρ own c z) ∧ (∀ (i : Nat) (c : V) (z : Value), caps[i]? = some c → vb[i]? = some z → RelV S w ρ own c z)
theorem calleeK_elim {v : V} {K : Nat → List V → List V → Prop} {u : Value} (hv : RelV S w ρ own v u) (h : calleeK v K) : ∃ n first caps, K n first caps ∧ Callee S w ρ own n first caps u := by
  unfold calleeK at h
  split at h
  · rename_i n first caps
    have h1 := tagK_elim (tagK_elim h)
    refine ⟨_, _, _, h1, ?_⟩
    have hv := hv.t_of
    cases hv with
    | fn f xs ys va vb g1 g2 g3 g4 => exact ⟨va, vb, rfl, by simpa using g1, by simpa using g2, RelV.of_ts g3, RelV.of_ts g4⟩
  · rename_i n first caps
    refine ⟨_, _, _, h, ?_⟩
    cases hv with
    | fn f xs ys va vb g1 g2 g3 g4 => exact ⟨va, vb, rfl, g1, g2, g3, g4⟩
  · exact h.elim

theorem rel_append {R : V → Value → Prop} {xs ys : List V} {us vs : List Value} (hl : us.length = xs.length) (h : ∀ (i : Nat) (c : V) (z : Value), xs[i]? = some c → us[i]? = some z → R c z)
    (h' : ∀ (i : Nat) (c : V) (z : Value), ys[i]? = some c → vs[i]? = some z → R c z) (i : Nat) (c : V) (z : Value) (hc : (xs ++ ys)[i]? = some c) (hz : (us ++ vs)[i]? = some z) : R c z := by
  rcases Nat.lt_or_ge i xs.length with hi | hi
  · rw [List.getElem?_append_left hi] at hc
    rw [List.getElem?_append_left (by omega)] at hz
    exact h i c z hc hz
  · rw [List.getElem?_append_right hi] at hc
    rw [List.getElem?_append_right (by omega), hl] at hz
    exact h' _ c z hc hz

theorem ansG_elim {a : Ans} {k : Nat} {log : Log} {K : V → Own → Log → Prop} (h : run dr (ansQ a k) own log K) : (∃ x, ((a = .yes x ∨ ∃ p d, a = @Ans.req p d x ∧ p) ∨ ∃ p d, a = @Ans.pk p d x ∧ p) ∧ K (.t x) own log) ∨
    ∃ p d sz xs, a = @Ans.gl p d sz xs ∧ p ∧ look k own = none ∧ K (.sl k 0 none) ((k, .lst sz xs 1) :: own) ((k, true) :: log) := by
  unfold ansQ at h
  split at h
  · replace h := req_elim h
    exact .inl ⟨_, .inr ⟨_, _, rfl, h.1⟩, h.2⟩
  unfold ansP at h
  split at h
  · exact h.elim
  · exact .inl ⟨_, .inl (.inl rfl), h⟩
  · replace h := req_elim h
    exact .inl ⟨_, .inl (.inr ⟨_, _, rfl, h.1⟩), h.2⟩
  · classical
    replace h := req_elim h
    obtain ⟨h1, h2⟩ := h
    replace h2 := new_elim h2
    exact .inr ⟨_, _, _, _, rfl, h1, h2.1, h2.2⟩
  · exact h.elim

theorem called_gl (hr : Rel Γ B S ρ ⟨tm, own⟩ a w) {k sz : Nat} {xs : List T} {v : Value} {w' : World} {S' : Cells} (hf : look k own = none) (hb : Below w.heap.size w w') (hS : ∀ b o, S b o → S' b o)
    (hS' : ∀ b o, S' b o → S b o ∨ (w.heap.size ≤ b ∧ b < w'.heap.size)) (ht : RelT S' w' (.list sz xs) v)
    (h1 : ∀ b o sp n cap, v = .slice (some ⟨b, o, sp⟩) n cap → cap = n ∨ sp = none ∧ (∃ arr e, w'.heap[b]? = some (.cells arr e (0, 0)) ∧ o + cap * sz ≤ arr.size) ∧ ∀ j, o + n * sz ≤ j → j < o + cap * sz → w.heap.size ≤ b ∧ ¬ S' b j)
    (h2 : ∀ n cap, v = .slice none n cap → cap = 0) :
    ∃ ρ' : Infos, Rel Γ B S' ρ' ⟨tm, (k, .lst sz xs 1) :: own⟩ a w' ∧ RelV S' w' ρ' ((k, .lst sz xs 1) :: own) (.sl k 0 none) v := by
  have hk := Keep.of_below (C := fun _ _ => False) hb
  obtain ⟨ρ', e, hr'⟩ := hr.grow (k := k) (blk := .lst sz xs 1) (S' := S') ⟨0, v⟩ hf hk hS hS'
    (fun b j hc => by
      obtain ⟨o, sp, n, cap, e1, g1, g2⟩ := hc
      rcases h1 b o sp n cap e1 with rfl | ⟨_, ⟨arr, e, g4, _⟩, g5⟩
      · omega
      · exact ⟨(g5 j g1 g2).1, lt_of_heap g4, (g5 j g1 g2).2⟩)
    (fun ρ' e _ => by
      refine ⟨by rw [e]; exact ht, fun b o sp n cap hv => ?_, fun n cap hv => h2 n cap (by rw [e] at hv; exact hv)⟩
      rw [e] at hv
      rcases h1 b o sp n cap hv with h | ⟨h, h', _⟩
      · exact .inl h
      · exact .inr ⟨h, h'⟩)
  refine ⟨ρ', hr', .sl k 0 none (.lst sz xs 1) (by simp [look]) v ?_⟩
  rw [e]
  cases ht with
  | list sz xs A cap u hcap ha hsz hrr =>
    refine ⟨A, xs.length, cap, rfl, hcap, Nat.zero_le _, fun _ => rfl, fun l hl => (by cases hl), A, cap, rfl, fun _ => rfl, by omega, fun hc => ?_⟩
    cases A with
    | none => have := h2 _ _ rfl; omega
    | some ad =>
      obtain ⟨b, o, sp⟩ := ad
      have : sp = none := by
        rcases h1 b o sp _ _ rfl with h | ⟨h, _⟩
        · cases xs with
          | nil => simp at h; omega
          | cons x xs =>
            obtain ⟨b', o', e', _⟩ := ha (by simp)
            simp at e'; exact e'.2.2
        · exact h
      subst this
      exact ⟨b, o, rfl, by simp⟩

theorem tsOf_some : ∀ {l : List V} {ts : List T}, tsOf l = some ts → l = ts.map .t
  | [], ts, h => by cases h; rfl
  | v :: r, ts, h => by
    simp only [tsOf] at h
    split at h
    · split at h
      · rename_i e; cases h; rw [tsOf_some e]; rfl
      · cases h
    · cases h
def AllW (w : World) : Cells := fun b _ => b < w.heap.size
theorem peek_ok {K : V → Own → Log → Prop} (hm : Mem Γ.gl S w ρ own) {v : V} {u : Value} (hv : RelV S w ρ own v u) {f : Option T → Pg} {log : Log} (h : run dr (peekP v f) own log K) :
    (∃ log', run dr (f none) own log' K) ∨ ∃ x log', run dr (f (some x)) own log' K ∧ RelT (AllW w) w x u := by
  have mono : ∀ {x : T} {u : Value}, RelT S w x u → RelT (AllW w) w x u := fun h => h.mono (fun b o hs => hm.lt b o hs) (fun _ _ _ => rfl)
  unfold peekP at h
  split at h
  · rename_i x
    exact .inr ⟨x, log, h, mono hv.t_of⟩
  · rename_i k off
    obtain ⟨blk, hb, h⟩ := rd_elim h
    split at h
    · rename_i cs
      split at h
      · rename_i ts hts
        refine .inr ⟨_, _, h, ?_⟩
        have hB := hm.blk k _ hb
        obtain ⟨arr, e, h1, h2, h3⟩ := hB
        cases hv with
        | ptr =>
          have hblk : (ρ k).blk < w.heap.size := by
            rcases Nat.lt_or_ge (ρ k).blk w.heap.size with h' | h'
            · exact h'
            · rw [Array.getElem?_eq_none h'] at h1; cases h1
          obtain rfl := tsOf_some hts
          refine .ref _ _ _ (fun i => (arr[off + i]?).getD .nilFunc) (fun i hi => ⟨hblk, ?_⟩) (fun i c hc => ?_)
          · have hi' : off + i < arr.size := by rw [h2]; simp at hi ⊢; omega
            rw [cell?_eq, h1]
            simp [hi']
          · rw [List.getElem?_drop] at hc
            have hi' : off + i < arr.size := by rw [h2]; have := (List.getElem?_eq_some_iff.1 hc).1; simpa using this
            have := h3 (off + i) (.t c) arr[off + i] (by simp [hc]) (by simp [hi'])
            simp only [Array.getElem?_eq_getElem hi', Option.getD_some]
            exact mono this.t_of
      · exact .inl ⟨_, h⟩
    · exact .inl ⟨_, h⟩
  · exact .inl ⟨_, h⟩
theorem peeks_ok {K : V → Own → Log → Prop} (hm : Mem Γ.gl S w ρ own) : ∀ {vs : List V} {us : List Value} {f : Option (List T) → Pg} {log : Log}, us.length = vs.length → (∀ (i : Nat) (c : V) (z : Value), vs[i]? = some c → us[i]? = some z → RelV S w ρ own c z) →
    run dr (peekTs vs f) own log K → (∃ log', run dr (f none) own log' K) ∨ ∃ xs log', run dr (f (some xs)) own log' K ∧ xs.length = vs.length ∧ ∀ (i : Nat) (x : T) (z : Value), xs[i]? = some x → us[i]? = some z → RelT (AllW w) w x z
  | [], us, f, log, hl, hv, h => .inr ⟨[], log, h, rfl, fun i x z h => by simp at h⟩
  | v :: vs, us, f, log, hl, hv, h => by
    cases us with
    | nil => simp at hl
    | cons u us =>
      rcases peek_ok hm (hv 0 v u rfl rfl) h with ⟨l1, h1⟩ | ⟨x, l1, h1, hx⟩
      · exact .inl ⟨l1, h1⟩
      · rcases peeks_ok hm (vs := vs) (us := us) (by simpa using hl) (fun i c z hc hz => hv (i + 1) c z (by simpa using hc) (by simpa using hz)) h1 with ⟨l2, h2⟩ | ⟨xs, l2, h2, h3, h4⟩
        · exact .inl ⟨l2, h2⟩
        · refine .inr ⟨x :: xs, l2, h2, by simp [h3], fun i y z hy hz => ?_⟩
          cases i with
          | zero => simp at hy hz; subst hy hz; exact hx
          | succ i => exact h4 i y z (by simpa using hy) (by simpa using hz)
theorem scalP_elim {K : V → Own → Log → Prop} {x : T} {p : Pg} {log : Log} (h : run dr (scalP x p) own log K) : (∀ S S' : Cells, ∀ w w' : World, ∀ u, RelT S w x u → RelT S' w' x u) ∧ run dr p own log K := by
  unfold scalP at h
  split at h
  · exact ⟨fun S S' w w' u hu => by cases hu; exact .bool _, h⟩
  · exact ⟨fun S S' w w' u hu => by cases hu; exact .int _ _, h⟩
  · exact ⟨fun S S' w w' u hu => by cases hu; exact .str _, h⟩
  · exact h.elim
theorem callP_elim {K : V → Own → Log → Prop} {g : List T → Ans} {args : List V} {key : Nat} {us : List Value} (hm : Mem Γ.gl S w ρ own) (hl : us.length = args.length) (hv : ∀ (i : Nat) (c : V) (z : Value), args[i]? = some c → us[i]? = some z → RelV S w ρ own c z)
    {log : Log} (h : run dr (callP g args key) own log K) : (∃ log', run dr (toTsP args fun ts => ansQ (g ts) key) own log' K) ∨
    ∃ ps p d x log', g ps = @Ans.pk p d x ∧ p ∧ ps.length = args.length ∧ (∀ (i : Nat) (y : T) (z : Value), ps[i]? = some y → us[i]? = some z → RelT (AllW w) w y z) ∧
      (∀ S S' : Cells, ∀ w w' : World, ∀ u, RelT S w x u → RelT S' w' x u) ∧ K (.t x) own log' := by
  unfold callP at h
  split at h
  · exact .inl ⟨_, h⟩
  · rcases peeks_ok hm hl hv h with ⟨l1, h1⟩ | ⟨ps, l1, h1, h2, h3⟩
    · exact .inl ⟨_, h1⟩
    · dsimp only at h1
      split at h1
      · rename_i p d x hg
        obtain ⟨hp, h1⟩ := req_elim h1
        obtain ⟨h4, h5⟩ := scalP_elim h1
        exact .inr ⟨ps, p, d, x, l1, hg, hp, h2, h3, h4, h5⟩
      · exact .inl ⟨_, h1⟩
theorem step_call (hΓ : EnvOk P Γ) (hn : ∀ st' log a' w', K st' log → Good Γ B st' a' w' → next a' w') (hr : Rel Γ B S ρ ⟨tm, own⟩ a w) {c : Call} {x : Operand} {x' : Opd} {key : Nat} {ys : List Opd} (hx : lowX x = some x')
    (hc : c.callee = .value x) (hy : lowXs c.args.toList = some ys) (ho : o.op = .call c) (h : stepK Γ dr o.dst ⟨tm, own⟩ (.call key x' ys) K) : o.wp P a w next Q := by
  obtain ⟨vs, hv1, hv2, h⟩ := evsK_elim h
  obtain ⟨fv, args, rfl, hfv, hargs⟩ := vals_cons (x := x') (xs := ys) ⟨hv1, hv2⟩
  dsimp only at h
  obtain ⟨n, first, caps, h, ⟨va, vb, hu, n1, n2, r1, r2⟩⟩ := calleeK_elim (ev_rel hr hx hfv) h
  obtain ⟨k1, k2⟩ := lowXs_rel hr hy hargs
  -- all that is handed in
  have hsz : (va ++ (c.args.map a.eval ++ vb)).toList.length = (first ++ (args ++ caps)).length := by simp at k1 ⊢; omega
  have hrel : ∀ (i : Nat) (v : V) (u : Value), (first ++ (args ++ caps))[i]? = some v → (va ++ (c.args.map a.eval ++ vb)).toList[i]? = some u → RelV S w ρ own v u := by
    intro i v u hv hu'
    rw [Array.toList_append, Array.toList_append] at hu'
    refine rel_append (R := RelV S w ρ own) (by simpa using n1) (fun i c z hc hz => r1 i c z hc (by simpa using hz)) (rel_append (R := RelV S w ρ own) (by simp at k1 ⊢; omega) (fun i v z hc hz => ?_) (fun i c z hc hz => r2 i c z hc (by simpa using hz))) i v u hv hu'
    simp only [Array.toList_map, List.getElem?_map, Option.map_eq_some_iff] at hz
    obtain ⟨y, hy1, rfl⟩ := hz
    exact k2 i y v hy1 hc
  have run : ∀ fn, P.funcs[n]? = some fn → fn.body.isSome = true → fn.name ≠ "runtime.NumGoroutine" → (execOp a.eval o).run P w = .ok (.enter n (va ++ (c.args.map a.eval ++ vb))) w := fun fn e1 e2 e3 => by
    have e5 : fn.body ≠ none := by intro e; rw [e] at e2; cases e2
    simp [execOp, ho, resolve, hc, hu, Deferred.ofValue, invoke, callFunc, e1, e3, e5, Array.append_assoc]
  split at h
  · rename_i hI
    have hI2 := inlQ_true hI
    obtain ⟨⟨fn, e1, e2, e3⟩, hok⟩ := hΓ.pt _ _ _ _ _ hI2.1 h
    have hcalls := hok S w ρ (va ++ (c.args.map a.eval ++ vb)) hr.mem (by simpa using hsz) (fun i v u hv hu' => hrel i v u hv (by rw [Array.getElem?_toList]; exact hu'))
    simp only [Oper.wp, run fn e1 e2 e3, Oper.upon]
    refine Calls.mono hcalls fun e w' he => ?_
    obtain ⟨u, v, own', S', ρ', rfl, hR, g1, g2, g3, g4, g5, g6, g7, g8⟩ := he
    have hr' := hr.move g1 g3 (fun _ _ h => h) g4 g5 g6 g7 g8
    exact hn _ _ _ _ (putK_elim hR).2 ⟨S', ρ', hr'.put g2⟩
  · split at h
    · rename_i hD
      obtain ⟨own1, v, hok, hpt, hK⟩ := drK_elim h
      obtain ⟨hv, hs, ha, hc⟩ := hok
      obtain ⟨⟨fn, e1, e2, e3⟩, hcall⟩ := hΓ.pt _ _ _ _ _ (inlD_true hD).1 hpt
      have hsub : ∀ k b, look k own1 = some b → look k own = some b := fun k b hk => by
        obtain ⟨b', h1, h2⟩ := lkupK_elim (hs _ (look_mem hk))
        rw [h1, h2]
      have hin : ∀ k ∈ own1.map (·.1), look k own1 = look k own := fun k hk => by
        obtain ⟨b, hb⟩ := mem_look hk
        rw [hb, hsub k b hb]
      have hca := allIn_spec ha
      have hcc := ownClosed_spec hc
      have hm1 : Mem Γ.gl S w ρ own1 := ⟨hr.mem.lt, fun k blk hk => (hr.mem.blk k blk (hsub k blk hk)).lookAt fun j hj => hin j (hcc k blk hk (List.mem_map.2 ⟨_, look_mem hk, rfl⟩) j hj),
        fun k blk hk => hr.mem.cl k blk (hsub k blk hk), fun k k' b b' hk hk' => hr.mem.disj k k' b b' (hsub k b hk) (hsub k' b' hk'), hr.mem.gl⟩
      have hcalls := hcall S w ρ (va ++ (c.args.map a.eval ++ vb)) hm1 (by simpa using hsz) (fun i v u hv hu' => (hrel i v u hv (by rw [Array.getElem?_toList]; exact hu')).lookAt fun k hk => hin k (hca k (mem_vsRefs (List.mem_of_getElem? hv) hk)))
      simp only [Oper.wp, run fn e1 e2 e3, Oper.upon]
      refine Calls.mono hcalls fun e w' he => ?_
      obtain ⟨u, v', own', S', ρ', rfl, ⟨rfl, rfl⟩, g1, g2, g3, g4, g5, g6, g7, g8⟩ := he
      obtain ⟨k1, k2, k3⟩ := framed hr.mem hsub g1 g2 g3 g4 g5 g7 hv
      have hr' := hr.move k1 g3 k3 g4 (fun b o hb => by
        rcases g5 b o hb with h1 | h1 | h1
        · exact .inl h1
        · exact .inr (.inl (k3 b o h1))
        · exact .inr (.inr h1)) (OwnLe.refl _) (fun _ _ _ => rfl) (fun b o hb => .inl hb)
      exact hn _ _ _ _ (putK_elim hK).2 ⟨S', ρ, hr'.put k2⟩
    rcases callP_elim hr.mem hsz hrel h with ⟨log0, h⟩ | ⟨ps, p, dd, x, log0, hx', hp, hpl, hps, hsc, h⟩
    rotate_left
    · obtain ⟨⟨fn, e1, e2, e3⟩, hok⟩ := hΓ.pk _ _ _ _ _ hx' hp
      have hgl : GlOk Γ.gl (AllW w) w := fun g cs hg i c hc => by
        obtain ⟨g1, u, g2, g3⟩ := hr.mem.gl g cs hg i c hc
        exact ⟨hr.mem.lt _ _ g1, u, g2, g3.mono (fun b o hs => hr.mem.lt b o hs) (fun _ _ _ => rfl)⟩
      have hnil : ∀ (i : Nat) (c' : T) (u : Value), ps[i]? = some c' → (va ++ (c.args.map a.eval ++ vb))[i]? = some u → RelT (AllW w) w c' u := fun i c' u hc' hu' => hps i c' u hc' (by rw [Array.getElem?_toList]; exact hu')
      have hcalls := hok (AllW w) w _ (fun b o h => h) hgl (by rw [hpl, ← hsz]; simp) hnil
      simp only [Oper.wp, run fn e1 e2 e3, Oper.upon]
      refine Calls.mono hcalls fun e w' he => ?_
      obtain ⟨u, rfl, g1, g2⟩ := he
      exact hn _ _ _ _ (putK_elim h).2 ⟨_, ρ, (hr.called g2).put (.t _ _ (hsc _ _ _ _ _ g1))⟩
    obtain ⟨ts, own1, S1, log1, h1, c1, l1, t1⟩ := toTs_ok (toT_ok 8) (first ++ (args ++ caps)) (va ++ (c.args.map a.eval ++ vb)).toList S own _ _ hsz hr hrel h
    have q1 : (va ++ (c.args.map a.eval ++ vb)).size = ts.length := by rw [l1, ← hsz]; simp
    have q2 : ∀ (i : Nat) (c' : T) (u : Value), ts[i]? = some c' → (va ++ (c.args.map a.eval ++ vb))[i]? = some u → RelT S1 w c' u := fun i c' u hc' hu' => t1 i c' u hc' (by rw [Array.getElem?_toList]; exact hu')
    rcases ansG_elim h1 with ⟨x, hx', h2⟩ | ⟨p, _, sz, xs, hx', hp, hf, h2⟩
    · have hfn : FnOk P Γ.gl n ts x := by
        rcases hx' with hx' | ⟨p, d, hx', hp⟩
        · exact hΓ.fn _ _ _ hx'
        · exact hΓ.pk _ _ _ _ _ hx' hp
      obtain ⟨⟨fn, e1, e2, e3⟩, hok⟩ := hfn
      have hcalls := hok S1 w _ c1.rel.mem.lt c1.rel.mem.gl q1 q2
      simp only [Oper.wp, run fn e1 e2 e3, Oper.upon]
      refine Calls.mono hcalls fun e w' he => ?_
      obtain ⟨u, rfl, g1, g2⟩ := he
      exact hn _ _ _ _ (putK_elim h2).2 ⟨_, ρ, (c1.rel.called g2).put (.t _ _ g1)⟩
    · obtain ⟨⟨fn, e1, e2, e3⟩, hok⟩ := hΓ.gl _ _ _ _ _ _ hx' hp
      have hcalls := hok S1 w _ c1.rel.mem.lt c1.rel.mem.gl q1 q2
      simp only [Oper.wp, run fn e1 e2 e3, Oper.upon]
      refine Calls.mono hcalls fun e w' he => ?_
      obtain ⟨u, rfl, g1, S', g2, g3, g4, g5, g6⟩ := he
      obtain ⟨ρ', hr', hv'⟩ := called_gl c1.rel hf g1 g2 g3 g4 g5 g6
      exact hn _ _ _ _ (putK_elim h2).2 ⟨S', ρ', hr'.put hv'⟩

theorem lowOp_call {key : Nat} {f : Opd} {args : List Opd} (hl : lowOp P o = some (.call key f args)) : ∃ c, o.op = .call c ∧ lowCall P o c = some (.call key f args) := by
  unfold lowOp at hl
  split at hl
  rotate_left
  · cases hl
  rename_i k0 hk0
  cases hl
  replace hl := hk0
  unfold lowOp0 at hl
  split at hl
  all_goals first
    | exact ⟨_, by assumption, hl⟩
    | (exfalso
       repeat' (split at hl)
       all_goals first
         | (cases hl; done)
         | (simp [Option.map_eq_some_iff] at hl; done))
theorem step_sound (hΓ : EnvOk P Γ) (hn : ∀ st' log a' w', K st' log → Good Γ B st' a' w' → next a' w') (hr : Rel Γ B S ρ ⟨tm, own⟩ a w) {mk : MK} (hl : lowOp P o = some mk)
    (h : stepK Γ dr o.dst ⟨tm, own⟩ mk K) : o.wp P a w next Q := by
  by_cases hc : isCall mk = true
  · cases mk <;> first | (simp [isCall] at hc; done) | skip
    rename_i key f args
    obtain ⟨c, ho, hl⟩ := lowOp_call hl
    have key : ∃ x, c.callee = .value x ∧ lowX x = some f ∧ lowXs c.args.toList = some args := by
      unfold lowCall at hl
      split at hl
      · rename_i f' hcf
        split at hl
        · rename_i h1 h2; cases hl; exact ⟨_, hcf, h1, h2⟩
        · cases hl
      · exfalso
        repeat' (split at hl)
        all_goals cases hl
      · cases hl
    obtain ⟨x, h1, h2, h3⟩ := key
    exact step_call hΓ hn hr h2 h1 h3 ho h
  · have hc : isCall mk = false := by simpa using hc
    have h' : evsK Γ tm (opds mk) fun vs => run dr (prog Γ.base mk vs) own [] fun v own' log => putK ⟨tm, own'⟩ o.dst v fun st => K st log := by
      cases mk <;> first | exact h | (simp [isCall] at hc)
    obtain ⟨vs, hv1, hv2, h'⟩ := evsK_elim h'
    obtain ⟨v, own', log, S', ρ', w', u, hK, hr', hv, hrun⟩ := step_op hr hl hc ⟨hv1, hv2⟩ h'
    rcases hrun with hrun | ⟨hrun, rfl⟩
    · simp only [Oper.wp, hrun, Oper.upon]
      exact hn _ _ _ _ (putK_elim hK).2 ⟨S', ρ', hr'.put hv⟩
    · simp only [Oper.wp, hrun, Oper.upon]
      exact hn _ _ _ _ (putK_elim hK).2 ⟨S', ρ', hr'.put hv⟩
theorem pnF_mem {n : Nat} {g : List T → AnsP} {f : Opd} : ∀ {l : List (Nat × (List T → AnsP))}, pnF l f = some g → ∃ n, f = .k (.fn (.func n) [] []) ∧ (n, g) ∈ l
  | [], h => by simp [pnF] at h
  | p :: r, h => by
    unfold pnF at h
    split at h
    · rename_i n first caps
      split at h
      · split at h
        · rename_i e
          cases h
          obtain rfl := Nat.eq_of_beq_eq_true e
          exact ⟨_, rfl, by simp⟩
        · obtain ⟨m, e, hm⟩ := pnF_mem (n := n) h
          exact ⟨m, e, List.mem_cons_of_mem _ hm⟩
      · cases h
    · cases h
theorem encP_inv {g : List T → AnsP} {ts : List T} {x : T} (h : encP g ts = .yes x ∨ ∃ p d, encP g ts = @Ans.req p d x ∧ p) : ∃ p c x' y, g ts = .br p c x' y ∧ p ∧ x = .tup [.bool c, x', optT y] := by
  unfold encP at h
  cases hg : g ts with
  | no =>
    rw [hg] at h
    rcases h with h | ⟨p, d, h, _⟩ <;> cases h
  | br p c x' y =>
    rw [hg] at h
    rcases h with h | ⟨p', d, h, hp⟩
    · cases h
    · injection h with h1 h2 h3
      subst h1
      exact ⟨p, c, x', y, rfl, hp, h3.symm⟩
theorem encP_npk {g : List T → AnsP} {ts : List T} {p : Prop} {d : Decidable p} {x : T} : encP g ts ≠ @Ans.pk p d x := by
  unfold encP
  cases g ts <;> intro h <;> cases h
theorem encP_ngl {g : List T → AnsP} {ts : List T} {p : Prop} {d : Decidable p} {sz : Nat} {xs : List T} : encP g ts ≠ @Ans.gl p d sz xs := by
  unfold encP
  cases g ts <;> intro h <;> cases h
theorem tas_dies {P : Program} {w : World} {u : Value} {xt t : TypeId} (hc : P.concrete t = true) (hb : tasB P = true) (hu : u = .nilIface ∨ ∃ t' x, u = .iface t' x ∧ t' ≠ t) :
    ∃ te pe w', (Instr.typeAssert u xt t false).run P w = .halt (.panic (.iface te pe)) w' ∧ Below w.heap.size w w' := by
  unfold tasB at hb
  split at hb
  rotate_left
  · cases hb
  rename_i e he
  unfold Program.concrete at hc
  unfold Instr.typeAssert
  split at hc
  · cases hc
  · cases hc
  · rename_i h1 h2
    cases hd : P.underlying t with
    | none => exact absurd hd h2
    | some d =>
      rcases hu with rfl | ⟨t', x, rfl, hne⟩
      · cases d <;> first | exact absurd hd (h1 _) | exact ⟨_, _, _, by simp [underlying, hd, runtimePanic, program, newVar, newRow, newObj, elemOf, he, goPanic, Sem.run]; exact ⟨⟨rfl, rfl⟩, rfl⟩, (Below.refl _ w).alloc (Nat.le_refl _) _⟩
      · cases d <;> first | exact absurd hd (h1 _) | exact ⟨_, _, _, by simp [underlying, hd, hne, runtimePanic, program, newVar, newRow, newObj, elemOf, he, goPanic, Sem.run]; exact ⟨⟨rfl, rfl⟩, rfl⟩, (Below.refl _ w).alloc (Nat.le_refl _) _⟩
theorem lowOp_pan {x : Opd} (hl : lowOp P o = some (.pan x)) : ∃ y, o.op = .panic y ∧ lowX y = some x := by
  unfold lowOp at hl
  split at hl
  rotate_left
  · cases hl
  rename_i k0 hk0
  cases hl
  replace hl := hk0
  unfold lowOp0 at hl
  split at hl
  all_goals first
    | (obtain ⟨y, h1, h2⟩ := Option.map_eq_some_iff.1 hl; cases h2; exact ⟨_, by assumption, h1⟩)
    | (exfalso
       try unfold lowCall at hl
       repeat' (split at hl)
       all_goals first
         | (cases hl; done)
         | (simp [Option.map_eq_some_iff] at hl; done))
theorem lowOp_tas {t : TypeId} {z : T} {ok : Bool} {x : Opd} (hl : lowOp P o = some (.tas t z ok x)) : ∃ y xt, o.op = .typeAssert y xt t ok ∧ lowX y = some x ∧ P.concrete t = true ∧ tasB P = true := by
  unfold lowOp at hl
  split at hl
  rotate_left
  · cases hl
  rename_i k0 hk0
  cases hl
  replace hl := hk0
  unfold lowOp0 at hl
  split at hl
  all_goals first
    | (rename_i y xt t' ok' ho
       split at hl
       · rename_i hc
         rw [Bool.and_eq_true] at hc
         split at hl
         · obtain ⟨y', h1, h2⟩ := Option.map_eq_some_iff.1 hl
           cases h2
           exact ⟨_, _, ho, h1, hc.1, hc.2⟩
         · cases hl
       · cases hl)
    | (exfalso
       try unfold lowCall at hl
       repeat' (split at hl)
       all_goals first
         | (cases hl; done)
         | (simp [Option.map_eq_some_iff] at hl; done))
theorem stepP_sound (hΓ : EnvOk P Γ) {K : Ex → St → Prop} (hn : ∀ st' a' w', K .normal st' → Good Γ B st' a' w' → next a' w')
    (hp : ∀ y st' a' w' S' ρ' u, K (.pan y) st' → Rel Γ B S' ρ' st' a' w' → PanR S' w' y u → Q (.panic [{ v := u, recovered := false }]) a' w')
    (hr : Rel Γ B S ρ ⟨tm, own⟩ a w) {mk : MK} (hl : lowOp P o = some mk) (h : stepP Γ o.dst ⟨tm, own⟩ mk K) : o.wp P a w next Q := by
  have plain : stepK Γ false o.dst ⟨tm, own⟩ mk (fun st _ => K .normal st) → o.wp P a w next Q := fun h =>
    step_sound hΓ (fun st' log a' w' hK hg => hn st' a' w' hK hg) hr hl h
  unfold stepP at h
  split at h
  · rename_i key f args
    split at h
    · rename_i g hg
      obtain ⟨n, rfl, hmem⟩ := pnF_mem (n := 0) hg
      obtain ⟨c, ho, hl⟩ := lowOp_call hl
      have key : ∃ x, c.callee = .value x ∧ lowX x = some (.k (.fn (.func n) [] [])) ∧ lowXs c.args.toList = some args := by
        unfold lowCall at hl
        split at hl
        · rename_i f' hcf
          split at hl
          · rename_i h1 h2; cases hl; exact ⟨_, hcf, h1, h2⟩
          · cases hl
        · exfalso
          repeat' (split at hl)
          all_goals cases hl
        · cases hl
      obtain ⟨x, hc, hx, hy⟩ := key
      obtain ⟨vs, hv1, hv2, h⟩ := evsK_elim h
      obtain ⟨k1, k2⟩ := lowXs_rel hr hy ⟨hv1, hv2⟩
      have hfv : a.eval x = .func (.func n) #[] #[] := by
        have hrel := (ev_rel hr hx (v := .t (.fn (.func n) [] [])) rfl).t_of
        generalize a.eval x = ux at hrel
        cases hrel with
        | fn _ _ _ aa bb n1 n2 _ _ =>
        have e1 : aa = #[] := Array.eq_empty_of_size_eq_zero (by simpa using n1)
        have e2 : bb = #[] := Array.eq_empty_of_size_eq_zero (by simpa using n2)
        rw [e1, e2]
      have hsz : (c.args.map a.eval).toList.length = vs.length := by simp at k1 ⊢; omega
      have hrel : ∀ (i : Nat) (v : V) (u : Value), vs[i]? = some v → (c.args.map a.eval).toList[i]? = some u → RelV S w ρ own v u := by
        intro i v u hv hu'
        simp only [Array.toList_map, List.getElem?_map, Option.map_eq_some_iff] at hu'
        obtain ⟨y, hy1, rfl⟩ := hu'
        exact k2 i y v hy1 hv
      have run : ∀ fn, P.funcs[n]? = some fn → fn.body.isSome = true → fn.name ≠ "runtime.NumGoroutine" → (execOp a.eval o).run P w = .ok (.enter n (c.args.map a.eval)) w := fun fn e1 e2 e3 => by
        have e5 : fn.body ≠ none := by intro e; rw [e] at e2; cases e2
        simp [execOp, ho, resolve, hc, hfv, Deferred.ofValue, invoke, callFunc, e1, e3, e5, Array.append_assoc]
      rcases callP_elim hr.mem hsz hrel h with ⟨log0, h⟩ | ⟨ps, p, dd, x, log0, hx', hp', hpl, hps, hsc, h⟩
      rotate_left
      · exact absurd hx' encP_npk
      obtain ⟨ts, own1, S1, log1, h1, c1, l1, t1⟩ := toTs_ok (toT_ok 8) vs (c.args.map a.eval).toList S own _ _ hsz hr hrel h
      have q1 : (c.args.map a.eval).size = ts.length := by rw [l1, ← hsz]; simp
      have q2 : ∀ (i : Nat) (c' : T) (u : Value), ts[i]? = some c' → (c.args.map a.eval)[i]? = some u → RelT S1 w c' u := fun i c' u hc' hu' => t1 i c' u hc' (by rw [Array.getElem?_toList]; exact hu')
      rcases ansG_elim h1 with ⟨x, hx', h2⟩ | ⟨p, _, sz, xs, hx', hp, hf, h2⟩
      rotate_left
      · exact absurd hx' encP_ngl
      have hx'' : encP g ts = .yes x ∨ ∃ p d, encP g ts = @Ans.req p d x ∧ p := by
        rcases hx' with hx' | ⟨p, d, hx', _⟩
        · exact hx'
        · exact absurd hx' encP_npk
      obtain ⟨p, cc, x', y, hg', hp', rfl⟩ := encP_inv hx''
      obtain ⟨⟨fn, e1, e2, e3⟩, hok⟩ := hΓ.pn _ _ hmem _ _ _ _ _ hg' hp'
      have hcalls := hok S1 w _ c1.rel.mem.lt c1.rel.mem.gl q1 q2
      have h2' : brK cc (putK ⟨tm, own1⟩ o.dst (.t x') fun st => K .normal st) (K (.pan y) ⟨tm, own1⟩) := by
        cases y with
        | none => exact h2
        | some t => exact h2
      simp only [Oper.wp, run fn e1 e2 e3, Oper.upon]
      refine Calls.mono hcalls fun e w' he => ?_
      obtain ⟨hbl, ⟨rfl, u, rfl, g1⟩ | ⟨rfl, u, rfl, g1⟩⟩ := he
      · rcases brK_elim h2' with ⟨_, h3⟩ | ⟨e, _⟩
        · exact hn _ _ _ (putK_elim h3).2 ⟨_, ρ, (c1.rel.called hbl).put (.t _ _ g1)⟩
        · cases e
      · rcases brK_elim h2' with ⟨e, _⟩ | ⟨_, h3⟩
        · cases e
        · exact hp _ _ _ _ _ _ _ h3 (c1.rel.called hbl) g1
    · exact plain h
  · obtain ⟨y, ho, hx⟩ := lowOp_pan hl
    obtain ⟨v, hv, h⟩ := evK_elim h
    have hrel := ev_rel hr hx hv
    split at h
    · rename_i t z
      have hrel := hrel.t_of
      generalize hux : a.eval y = ux at hrel
      cases hrel with
      | ifc _ _ u hy =>
        have hrun : (execOp a.eval o).run P w = .halt (.panic (.iface t u)) w := by simp [execOp, ho, hux, run_panic_iface]
        simp only [Oper.wp, hrun, Oper.upon]
        exact hp _ _ _ _ _ _ _ h hr ⟨⟨_, _, rfl⟩, fun t' e => by cases e; exact .ifc _ _ _ hy⟩
    · exact h.elim
  · split at h
    · exact plain h
    · obtain ⟨y, xt, ho, hx, hc, hb⟩ := lowOp_tas hl
      obtain ⟨v, hv, h⟩ := evK_elim h
      have hrel := ev_rel hr hx hv
      have dies : ∀ u, a.eval y = u → (u = .nilIface ∨ ∃ t' x, u = .iface t' x ∧ t' ≠ _) → K (.pan none) ⟨tm, own⟩ → o.wp P a w next Q := fun u hu hd hK => by
        obtain ⟨te, pe, w', h1, h2⟩ := tas_dies (w := w) (xt := xt) hc hb hd
        have hrun : (execOp a.eval o).run P w = .halt (.panic (.iface te pe)) w' := by simp [execOp, ho, hu, h1]
        simp only [Oper.wp, hrun, Oper.upon]
        exact hp _ _ _ _ _ _ _ hK (hr.called h2) ⟨⟨_, _, rfl⟩, fun t' e => by cases e⟩
      split at h
      · rename_i t' z
        have hrel := hrel.t_of
        generalize hux : a.eval y = ux at hrel
        cases hrel with
        | ifc _ _ u hy =>
          split at h
          · exact plain h
          · rename_i e
            refine dies _ hux (.inr ⟨_, _, rfl, ?_⟩) h
            rw [← Bool.not_eq_true, Nat.beq_eq] at e; exact e
      · have hrel := hrel.t_of
        generalize hux : a.eval y = ux at hrel
        cases hrel
        exact dies _ hux (.inl rfl) h
      · exact h.elim
  · exact plain h
end
end Go.Nx
end
