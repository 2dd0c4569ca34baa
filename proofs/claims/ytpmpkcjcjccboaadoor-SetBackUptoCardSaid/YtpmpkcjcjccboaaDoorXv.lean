/-
  WHAT IS FORGOTTEN, RENAMED, TAKEN ON.
-/
import Derived.Test.YtpmpkcjcjccboaaDoorXu
set_option linter.unusedVariables false
set_option linter.unusedSimpArgs false
namespace Go.Nx
open Go.RowKit

theorem keepK_elim {m : List Nat} : ∀ {own : Own} {K : Own → Prop}, keepK m own K → ∃ own', K own' ∧ ∀ k, look k own' = if k ∈ m then look k own else none
  | [], K, h => ⟨[], h, fun k => by simp [look]⟩
  | p :: r, K, h => by
    obtain ⟨j, b⟩ := p
    simp only [keepK] at h
    split at h
    · rename_i e
      obtain ⟨own', h1, h2⟩ := keepK_elim h
      refine ⟨own', h1, fun k => ?_⟩
      rw [h2]
      simp only [look]
      by_cases e2 : j = k
      · subst e2; simp [notIn_spec e]
      · simp [e2]
    · rename_i e
      obtain ⟨own', h1, h2⟩ := keepK_elim h
      refine ⟨_, h1, fun k => ?_⟩
      simp only [look]
      by_cases e2 : j = k
      · subst e2; simp [notIn_false e]
      · simp [e2, h2]

section
variable {P : Program} {Γ : Env} {B : Base} {S : Cells} {ρ : Infos} {tm : List V} {own : Own} {a : Act} {w : World}

/-- ONLY WHAT IS REACHED STAYS. -/
theorem keep_rel {m roots : List Nat} {K : Own → Prop} (hr : Rel Γ B S ρ ⟨tm, own⟩ a w) (hroots : ∀ k b, look k B.own = some b → k ∈ roots) (h : natK (allIn m roots) (natK (ownClosed m own) (keepK m own K))) :
    ∃ own', K own' ∧ (∀ tm', (∀ (i : Nat) (v : V) (u : Value), tm'[i]? = some v → a.tmps[i]? = some u → RelV S w ρ own v u) → tm'.length = tm.length → (∀ k ∈ vsRefs tm', k ∈ roots) → Rel Γ B S ρ ⟨tm', own'⟩ a w) ∧
      (∀ v u, (∀ k ∈ vRefs v, k ∈ roots) → RelV S w ρ own v u → RelV S w ρ own' v u) := by
  obtain ⟨h1, h⟩ := natK_elim h
  obtain ⟨h2, h⟩ := natK_elim h
  obtain ⟨own', hK, hlook⟩ := keepK_elim h
  have hm := allIn_spec h1
  have hc := ownClosed_spec h2
  have hin : ∀ k ∈ m, look k own' = look k own := fun k hk => by rw [hlook, if_pos hk]
  have hlk : ∀ k b, look k own' = some b → look k own = some b ∧ k ∈ m := fun k b hk => by
    rw [hlook] at hk
    split at hk
    · exact ⟨hk, by assumption⟩
    · cases hk
  refine ⟨own', hK, fun tm' htm hlen href => ?_, fun v u hv hrel => hrel.lookAt fun k hk => hin k (hm k (hv k hk))⟩
  refine ⟨⟨hr.mem.lt, fun k blk hk => ?_, fun k blk hk => hr.mem.cl k blk (hlk k blk hk).1, fun k k' b b' hk hk' => hr.mem.disj k k' b b' (hlk k b hk).1 (hlk k' b' hk').1, hr.mem.gl⟩,
    hr.keep, hr.base, hr.sub, hr.sup, fun b o hcl => ?_, fun k b hk => ?_, hr.rho, hr.prot, ?_, fun i v u hv hu => ?_, hr.defers⟩
  · obtain ⟨g1, g2⟩ := hlk k blk hk
    exact (hr.mem.blk k blk g1).lookAt fun j hj => hin j (hc k blk g1 g2 j hj)
  · obtain ⟨k, blk, g1, g2⟩ := hcl
    exact hr.clB b o ⟨k, blk, (hlk k blk g1).1, g2⟩
  · obtain ⟨b', g1, g2⟩ := hr.le k b hk
    exact ⟨b', by show look k own' = some b'; rw [hin k (hm k (hroots k b hk))]; exact g1, g2⟩
  · show a.tmps.size = tm'.length
    rw [hlen]; exact hr.len
  · exact (htm i v u hv hu).lookAt fun k hk => hin k (hm k (href k (mem_vsRefs (List.mem_of_getElem? hv) hk)))

theorem pushK_elim {K : List Nat → Prop} : ∀ {r m : List Nat}, pushK r m K → ∃ m', K m'
  | [], m, h => ⟨m, h⟩
  | x :: r, m, h => by
    unfold pushK at h
    split at h
    · exact pushK_elim h
    · exact pushK_elim h
theorem reachK_elim {K : List Nat → Prop} : ∀ {own : Own} {m : List Nat}, reachK K own m → ∃ m', K m'
  | [], m, h => ⟨m, h⟩
  | p :: r, m, h => by
    unfold reachK at h
    split at h
    · exact reachK_elim h
    · obtain ⟨m', h'⟩ := pushK_elim h
      exact reachK_elim h'
theorem marksK_elim {own0 : Own} {K : List Nat → Prop} : ∀ {own : Own} {m : List Nat}, marksK own0 K own m → ∃ m', K m'
  | [], m, h => ⟨m, h⟩
  | p :: r, m, h => by
    unfold marksK at h
    obtain ⟨m', h'⟩ := reachK_elim h
    exact marksK_elim h'
theorem gc_rel {roots : List Nat} {K : Own → Prop} (hr : Rel Γ B S ρ ⟨tm, own⟩ a w) (hroots : ∀ k b, look k B.own = some b → k ∈ roots) (h : gcK roots own K) :
    ∃ own', K own' ∧ (∀ tm', (∀ (i : Nat) (v : V) (u : Value), tm'[i]? = some v → a.tmps[i]? = some u → RelV S w ρ own v u) → tm'.length = tm.length → (∀ k ∈ vsRefs tm', k ∈ roots) → Rel Γ B S ρ ⟨tm', own'⟩ a w) ∧
      (∀ v u, (∀ k ∈ vRefs v, k ∈ roots) → RelV S w ρ own v u → RelV S w ρ own' v u) := by
  obtain ⟨m0, h⟩ := pushK_elim h
  obtain ⟨m, h⟩ := marksK_elim h
  exact keep_rel hr hroots h
/-! ### another name -/
def ren (k k0 j : Nat) : Nat := if j = k then k0 else j
theorem beq_ne {j k : Nat} (e : j ≠ k) : Nat.beq j k = false := by rw [← Bool.not_eq_true, Nat.beq_eq]; exact e
theorem renV_ptr (k k0 j o : Nat) : renV k k0 (.ptr j o) = .ptr (ren k k0 j) o := by
  by_cases e : j = k
  · subst e; simp [renV, ren, Nat.beq_refl]
  · simp [renV, ren, e, beq_ne e]
theorem renV_eptr (k k0 j o i : Nat) : renV k k0 (.eptr j o i) = .eptr (ren k k0 j) o i := by
  by_cases e : j = k
  · subst e; simp [renV, ren, Nat.beq_refl]
  · simp [renV, ren, e, beq_ne e]
theorem renV_sl (k k0 j o : Nat) (l : Option Nat) : renV k k0 (.sl j o l) = .sl (ren k k0 j) o l := by
  by_cases e : j = k
  · subst e; simp [renV, ren, Nat.beq_refl]
  · simp [renV, ren, e, beq_ne e]
theorem renV_mp (k k0 j : Nat) : renV k k0 (.mp j) = .mp (ren k k0 j) := by
  by_cases e : j = k
  · subst e; simp [renV, ren, Nat.beq_refl]
  · simp [renV, ren, e, beq_ne e]
theorem renOwn_cons (k k0 : Nat) (p : Nat × Blk) (r : Own) : renOwn k k0 (p :: r) = (ren k k0 p.1, renB k k0 p.2) :: renOwn k k0 r := by
  by_cases e : p.1 = k
  · simp [renOwn, ren, e, Nat.beq_refl]
  · simp [renOwn, ren, e, beq_ne e]
theorem renVs_get {k k0 : Nat} : ∀ {l : List V} {i : Nat} {c : V}, (renVs k k0 l)[i]? = some c → ∃ c', l[i]? = some c' ∧ c = renV k k0 c'
  | [], i, c, h => by simp [renVs] at h
  | x :: r, 0, c, h => by simp [renVs] at h; exact ⟨x, rfl, h.symm⟩
  | x :: r, i + 1, c, h => by simp only [renVs, List.getElem?_cons_succ] at h ⊢; exact renVs_get h
theorem renVs_len {k k0 : Nat} : ∀ (l : List V), (renVs k k0 l).length = l.length
  | [] => rfl
  | x :: r => by simp [renVs, renVs_len r]
theorem renEs_get {k k0 : Nat} : ∀ {l : List (T × V)} {i : Nat} {c : T × V}, (renEs k k0 l)[i]? = some c → ∃ c', l[i]? = some c' ∧ c = (c'.1, renV k k0 c'.2)
  | [], i, c, h => by simp [renEs] at h
  | x :: r, 0, c, h => by simp [renEs] at h; exact ⟨x, rfl, h.symm⟩
  | x :: r, i + 1, c, h => by simp only [renEs, List.getElem?_cons_succ] at h ⊢; exact renEs_get h
theorem renEs_len {k k0 : Nat} : ∀ (l : List (T × V)), (renEs k k0 l).length = l.length
  | [] => rfl
  | x :: r => by simp [renEs, renEs_len r]
theorem look_ren {k k0 : Nat} : ∀ {own : Own}, look k0 own = none → ∀ j, j ≠ k0 → look (ren k k0 j) (renOwn k k0 own) = (look j own).map (renB k k0)
  | [], _, j, _ => by simp [look, renOwn]
  | p :: r, h, j, hj => by
    simp only [look] at h
    split at h
    · cases h
    · rename_i e
      simp only [renOwn_cons, look]
      by_cases e2 : p.1 = j
      · subst e2; simp
      · have : ren k k0 p.1 ≠ ren k k0 j := by
          unfold ren
          by_cases e3 : p.1 = k
          · rw [if_pos e3, if_neg (by omega)]; omega
          · rw [if_neg e3]
            by_cases e4 : j = k
            · rw [if_pos e4]; exact e
            · rw [if_neg e4]; exact e2
        rw [if_neg this, if_neg e2]
        exact look_ren h j hj
theorem look_renOwn {k k0 : Nat} {own : Own} {j : Nat} {b : Blk} (h0 : look k0 own = none) (h : look j (renOwn k k0 own) = some b) : ∃ j' b', look j' own = some b' ∧ j = ren k k0 j' ∧ b = renB k k0 b' := by
  induction own with
  | nil => simp [renOwn, look] at h
  | cons p r ih =>
    simp only [look] at h0
    split at h0
    · cases h0
    · rename_i e
      simp only [renOwn_cons, look] at h
      split at h
      · rename_i e2
        cases h
        exact ⟨p.1, p.2, by simp [look], e2.symm, rfl⟩
      · rename_i e2
        obtain ⟨j', b', g1, g2, g3⟩ := ih h0 h
        refine ⟨j', b', ?_, g2, g3⟩
        simp only [look]
        rw [if_neg]
        · exact g1
        · intro e3; subst e3; exact e2 g2.symm
theorem claim_ren (i : Info) (k k0 : Nat) (b : Blk) : claim i (renB k k0 b) = claim i b := by cases b <;> rfl
theorem ren_inj {k k0 i j : Nat} (hi : i ≠ k0) (hj : j ≠ k0) (h : ren k k0 i = ren k k0 j) : i = j := by
  unfold ren at h
  split at h <;> split at h <;> omega
theorem RelV.ren {ρ' : Infos} {k k0 : Nat} (h0 : look k0 own = none) (hρ : ∀ j b, look j own = some b → ρ' (ren k k0 j) = ρ j) {v : V} {u : Value} (h : RelV S w ρ own v u) : RelV S w ρ' (renOwn k k0 own) (renV k k0 v) u := by
  have ne : ∀ {j b}, look j own = some b → j ≠ k0 := fun {j b} hj e => by subst e; rw [h0] at hj; cases hj
  have lk : ∀ {j b}, look j own = some b → look (Nx.ren k k0 j) (renOwn k k0 own) = some (renB k k0 b) := fun {j b} hj => by
    rw [look_ren h0 j (ne hj), hj]; rfl
  induction h with
  | t x v h => exact .t x v h
  | dead v => exact .dead v
  | ptr j off b h => rw [renV_ptr]; rw [← hρ j b h]; exact .ptr _ off _ (lk h)
  | eptr j i l b h ad ha =>
    rw [renV_eptr]
    refine .eptr _ i l _ (lk h) ad fun sz ts m hb => ?_
    rw [hρ j b h]
    cases b <;> simp [renB] at hb
    obtain ⟨rfl, rfl, rfl⟩ := hb
    exact ha _ _ _ rfl
  | sl j off len b h v hv =>
    rw [renV_sl]
    refine .sl _ off len _ (lk h) v ?_
    rw [hρ j b h]
    cases b <;> exact hv
  | cl sz xs a h => exact .cl sz xs a h
  | ce a => exact .ce a
  | mp j b h => rw [renV_mp]; rw [← hρ j b h]; exact .mp _ _ (lk h)
  | fn f xs ys a b hn hm h h' ih ih' =>
    simp only [renV]
    refine .fn f _ _ a b (by rw [renVs_len]; exact hn) (by rw [renVs_len]; exact hm) (fun i c v hc hv => ?_) fun i c v hc hv => ?_
    · obtain ⟨c', hc', rfl⟩ := renVs_get hc; exact ih i c' v hc' hv
    · obtain ⟨c', hc', rfl⟩ := renVs_get hc; exact ih' i c' v hc' hv
  | agg cs arr hn h ih =>
    simp only [renV]
    refine .agg _ arr (by rw [renVs_len]; exact hn) fun i c v hc hv => ?_
    obtain ⟨c', hc', rfl⟩ := renVs_get hc; exact ih i c' v hc' hv
  | tup cs arr hn h ih =>
    simp only [renV]
    refine .tup _ arr (by rw [renVs_len]; exact hn) fun i c v hc hv => ?_
    obtain ⟨c', hc', rfl⟩ := renVs_get hc; exact ih i c' v hc' hv
theorem RelB.ren {ρ' : Infos} {k k0 j : Nat} {blk : Blk} (h0 : look k0 own = none) (hρ : ∀ j b, look j own = some b → ρ' (ren k k0 j) = ρ j) (hj : look j own = some blk) (h : RelB S w ρ own j blk) :
    RelB S w ρ' (renOwn k k0 own) (Nx.ren k k0 j) (renB k k0 blk) := by
  have e := hρ j blk hj
  cases blk with
  | cells cs =>
    obtain ⟨arr, t, h1, h2, h3⟩ := h
    refine ⟨arr, t, by rw [e]; exact h1, by rw [renVs_len]; exact h2, fun i c v hc hv => ?_⟩
    obtain ⟨c', hc', rfl⟩ := renVs_get hc
    exact (h3 i c' v hc' hv).ren h0 hρ
  | map nr es =>
    obtain ⟨h00, arr, n, h1, h2, h3⟩ := h
    cases nr with
    | true =>
      refine ⟨h00, arr, n, by rw [e]; exact h1, h2, fun i c m hc hm => ?_⟩
      obtain ⟨a, z, rfl⟩ := miB_ent (h00 rfl) hc
      exact ⟨(h3 i _ m hc hm).1, (h3 i _ m hc hm).2.ren h0 hρ⟩
    | false =>
      refine ⟨(fun e => (by cases e)), arr, n, by rw [e]; exact h1, by rw [renEs_len]; exact h2, fun i c m hc hm => ?_⟩
      obtain ⟨c', hc', rfl⟩ := renEs_get hc
      exact ⟨(h3 i c' m hc' hm).1, (h3 i c' m hc' hm).2.ren h0 hρ⟩
  | frz cs => show ∀ (i : Nat) (c : T), _ → _; rw [e]; exact h
  | lst sz ts m =>
    match m, h with
    | 0, h => simpa only [renB, RelB, e] using h
    | 1, h => simpa only [renB, RelB, e] using h
    | m + 2, h => simpa only [renB, RelB, e] using h
  | gone => trivial
theorem Ble.ren {b b' : Blk} (k k0 : Nat) (h : Ble b b') : Ble b (renB k k0 b') := by
  cases b' <;> first | exact h | skip
  all_goals cases b <;> simp [Ble, renB] at h ⊢

theorem ren_rel {k k0 : Nat} (hr : Rel Γ B S ρ ⟨tm, own⟩ a w) (hp : k ∉ Γ.prot) (h0 : look k0 own = none) : ∃ ρ', Rel Γ B S ρ' ⟨renVs k k0 tm, renOwn k k0 own⟩ a w := by
  have ne : ∀ {j b}, look j own = some b → j ≠ k0 := fun {j b} hj e => by subst e; rw [h0] at hj; cases hj
  obtain ⟨ρ', hρ, hρ0⟩ : ∃ ρ' : Infos, (∀ j b, look j own = some b → ρ' (ren k k0 j) = ρ j) ∧ ∀ j, j ≠ k0 → ρ' j = ρ j := by
    refine ⟨fun i => if i = k0 then ρ k else ρ i, fun j b hj => ?_, fun j hj => if_neg hj⟩
    have := ne hj
    unfold ren
    by_cases e : j = k
    · subst e; simp
    · simp [e, this]
  have bk : ∀ {j b}, look j B.own = some b → j ≠ k ∧ j ≠ k0 := fun {j b} hj => by
    refine ⟨fun e => ?_, ?_⟩
    · subst e; exact hp (hr.prot _ _ hj)
    · obtain ⟨b', hb', _⟩ := hr.le j b hj
      exact ne hb'
  refine ⟨ρ', ⟨hr.mem.lt, fun j blk hj => ?_, fun j blk hj b o hc => ?_, fun j j' x x' hj hj' hne b o hc hc' => ?_, hr.mem.gl⟩, hr.keep, hr.base, hr.sub, hr.sup, fun b o hc => ?_, fun j b hj => ?_, fun j b hj => ?_, hr.prot, ?_, fun i v u hv hu => ?_, hr.defers⟩
  · obtain ⟨j', b', g1, rfl, rfl⟩ := look_renOwn h0 hj
    exact (hr.mem.blk j' b' g1).ren h0 hρ g1
  · obtain ⟨j', b', g1, rfl, rfl⟩ := look_renOwn h0 hj
    rw [claim_ren, hρ j' b' g1] at hc
    exact hr.mem.cl j' b' g1 b o hc
  · obtain ⟨i, y, g1, rfl, rfl⟩ := look_renOwn h0 hj
    obtain ⟨i', y', g1', rfl, rfl⟩ := look_renOwn h0 hj'
    rw [claim_ren, hρ i y g1] at hc
    rw [claim_ren, hρ i' y' g1'] at hc'
    exact hr.mem.disj i i' y y' g1 g1' (fun e => hne (by rw [e])) b o hc hc'
  · obtain ⟨j, blk, hj, hc⟩ := hc
    obtain ⟨j', b', g1, rfl, rfl⟩ := look_renOwn h0 hj
    rw [claim_ren, hρ j' b' g1] at hc
    exact hr.clB b o ⟨j', b', g1, hc⟩
  · obtain ⟨b', g1, g2⟩ := hr.le j b hj
    obtain ⟨e1, e2⟩ := bk hj
    have := look_ren (k := k) h0 j e2
    unfold ren at this
    rw [if_neg e1, g1] at this
    exact ⟨_, this, g2.ren k k0⟩
  · obtain ⟨e1, e2⟩ := bk hj
    rw [hρ0 j e2]; exact hr.rho j b hj
  · show a.tmps.size = (renVs k k0 tm).length
    rw [renVs_len]; exact hr.len
  · obtain ⟨v', hv', rfl⟩ := renVs_get hv
    exact (hr.tm i v' u hv' hu).ren h0 hρ

/-- a slot, another way of saying what it holds -/
theorem Rel.slot (hr : Rel Γ B S ρ ⟨tm, own⟩ a w) {i : Nat} {v : V} (h : ∀ u, a.tmps[i]? = some u → RelV S w ρ own v u) : Rel Γ B S ρ ⟨tm.set i v, own⟩ a w := by
  refine ⟨hr.mem, hr.keep, hr.base, hr.sub, hr.sup, hr.clB, hr.le, hr.rho, hr.prot, by simpa using hr.len, fun j x u hv hu => ?_, hr.defers⟩
  by_cases e : i = j
  · subst e
    have hlt : i < tm.length := by
      rcases Nat.lt_or_ge i tm.length with h' | h'
      · exact h'
      · rw [List.getElem?_eq_none (by simpa using h')] at hv; cases hv
    rw [List.getElem?_set_self hlt] at hv
    cases hv; exact h u hu
  · rw [List.getElem?_set_ne e] at hv
    exact hr.tm j x u hv hu
theorem nz1_good {z : Nz} {st : St} {K : St → Prop} (h : nz1K Γ.prot z st K) (hg : Good Γ B st a w) : ∃ st', K st' ∧ Good Γ B st' a w := by
  obtain ⟨S, ρ, hr⟩ := hg
  obtain ⟨tm, own⟩ := st
  cases z with
  | kill i =>
    obtain ⟨h1, h2⟩ := setK_elim h
    exact ⟨_, h2, S, ρ, hr.slot fun u _ => .dead u⟩
  | gc =>
    obtain ⟨own', hK, h1, _⟩ := gc_rel hr (fun k b hk => List.mem_append.2 (.inr (hr.prot k b hk))) h
    exact ⟨_, hK, S, ρ, h1 tm hr.tm rfl fun k hk => List.mem_append.2 (.inl hk)⟩
  | ren k k0 =>
    obtain ⟨h1, h⟩ := natK_elim h
    obtain ⟨h2, h⟩ := freshK_elim h
    obtain ⟨ρ', hr'⟩ := ren_rel hr (notIn_spec h1) h2
    exact ⟨_, h, S, ρ', hr'⟩
  | keep m =>
    obtain ⟨own', hK, h1, _⟩ := keep_rel hr (fun k b hk => List.mem_append.2 (.inr (hr.prot k b hk))) h
    exact ⟨_, hK, S, ρ, h1 tm hr.tm rfl fun k hk => List.mem_append.2 (.inl hk)⟩
  | set k =>
    obtain ⟨b, hb, h⟩ := lkupK_elim h
    split at h
    · obtain ⟨S', c1⟩ := frz_lst hr hb
      exact ⟨_, updK_elim h, S', ρ, c1.rel⟩
    · exact h.elim
  | adopt i k sz =>
    obtain ⟨v, hv, h⟩ := getK_elim h
    have fin : ∀ (A : Option Addr), (∀ u, a.tmps[i]? = some u → u = .slice A 0 0) → freshK k own (setK tm i (.sl k 0 none) fun tm' => K ⟨tm', (k, .lst sz [] 1) :: own⟩) → ∃ st', K st' ∧ Good Γ B st' a w := by
      intro A hA h
      obtain ⟨hf, h⟩ := freshK_elim h
      obtain ⟨h1, h⟩ := setK_elim h
      obtain ⟨ρ', e, hr'⟩ := hr.grow (k := k) (blk := .lst sz [] 1) (S' := S) (w' := w) ⟨0, .slice A 0 0⟩ hf (Keep.refl _ w) (fun _ _ h => h) (fun _ _ h => .inl h)
        (fun b j hc => by
          obtain ⟨o, sp, n, cap, e1, g1, g2⟩ := hc
          simp only [Value.slice.injEq] at e1
          obtain ⟨_, rfl, rfl⟩ := e1
          omega)
        (fun ρ' e _ => by
          refine ⟨?_, fun b o sp n cap hv => ?_, fun n cap hv => ?_⟩
          · rw [e]
            exact .list sz [] A 0 (fun _ _ => .nilFunc) (by simp) (fun h => absurd rfl h) (fun x hx => by cases hx) (fun i x hx => by simp at hx)
          · rw [e] at hv
            simp only [Value.slice.injEq] at hv
            obtain ⟨_, rfl, rfl⟩ := hv
            exact .inl rfl
          · rw [e] at hv
            simp only [Value.slice.injEq] at hv
            exact hv.2.2.symm)
      refine ⟨_, h, S, ρ', hr'.slot fun u hu => ?_⟩
      have h3 := hA u hu
      subst h3
      refine .sl k 0 none (.lst sz [] 1) (by simp [look]) _ ?_
      rw [e]
      exact ⟨A, 0, 0, rfl, Nat.le_refl _, Nat.zero_le _, fun _ => rfl, (fun l hl => by cases hl), A, 0, rfl, fun _ => rfl, by omega, (fun h => by omega)⟩
    split at h
    · exact fin none (fun u hu => nils_of (hr.tm i _ u hv hu).t_of) h
    · cases hi : a.tmps[i]? with
      | none => exact fin none (fun u hu => by rw [hi] at hu; cases hu) h
      | some u0 =>
        obtain ⟨ad, e0⟩ := ce_of (hr.tm i _ u0 hv hi)
        exact fin (some ad) (fun u hu => by rw [hi] at hu; cases hu; exact e0) h
    · exact h.elim
theorem nz_good {K : St → Prop} : ∀ {zs : List Nz} {st : St}, nzK Γ.prot zs st K → Good Γ B st a w → ∃ st', K st' ∧ Good Γ B st' a w
  | [], st, h, hg => ⟨st, h, hg⟩
  | z :: r, st, h, hg => by
    obtain ⟨st1, h1, hg1⟩ := nz1_good h hg
    exact nz_good h1 hg1
end
end Go.Nx
