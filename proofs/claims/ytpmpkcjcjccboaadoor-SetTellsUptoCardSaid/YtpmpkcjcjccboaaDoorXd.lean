/-
  THE STATE OF THE MACHINE AND THE WORLD: how they hang together, and what keeps it so.
-/
import Derived.Test.YtpmpkcjcjccboaaDoorXc
set_option linter.unusedVariables false
namespace Go.Nx
open Go.RowKit

section mono
variable {S S' C : Cells} {w w' : World} {ρ ρ' : Infos} {own own' : Own}
  (hS : ∀ b o, S b o → S' b o) (hk : Keep C w w') (hC : ∀ b o, C b o → ¬ S b o) (hlt : ∀ b o, S b o → b < w.heap.size)
  (hle : OwnLe own own') (hρ : ∀ k b, look k own = some b → ρ' k = ρ k)
include hS hk hC hlt hle hρ
theorem RelB.mono {k : Nat} {blk : Blk} (hb : look k own = some blk) (hcl : ∀ b o, claim (ρ k) blk b o → ¬ C b o) (h : RelB S w ρ own k blk) : RelB S' w' ρ' own' k blk := by
  have e := hρ k blk hb
  have mv : ∀ {v u}, RelV S w ρ own v u → RelV S' w' ρ' own' v u := fun h => RelV.mono hS hk hC hlt hle hρ h
  cases blk with
  | cells cs =>
    obtain ⟨arr, t, h1, h2, h3⟩ := h
    refine ⟨arr, t, ?_, h2, fun i c v hc hv => mv (h3 i c v hc hv)⟩
    rw [e]; exact hk.row_same h1 fun o => hcl _ o rfl
  | frz cs =>
    intro i c hc
    obtain ⟨h1, u, h2, h3⟩ := h i c hc
    rw [e]
    exact ⟨hS _ _ h1, u, by rw [hk.cell (fun hc => hC _ _ hc h1) (hlt _ _ h1)]; exact h2, h3.keep hS hk hC hlt⟩
  | lst sz ts m =>
    match m with
    | 0 =>
      obtain ⟨h0, A, C', h1, h2, h3⟩ := h
      refine ⟨h0, A, C', by rw [e]; exact h1, h2, ?_⟩
      rcases h3 with h3 | ⟨h3, arr, t, h4, h5, h6⟩
      · exact .inl h3
      · by_cases hz : C' = 0
        · exact .inl hz
        · refine .inr ⟨by rw [e]; exact h3, arr, t, ?_, h5, fun i x j c hx hc => ?_⟩
          · rw [e]; exact hk.row_same h4 fun o => hcl _ o ⟨rfl, A, _, C', h1, hz⟩
          · obtain ⟨v, g1, g2⟩ := h6 i x j c hx hc
            exact ⟨v, g1, g2.keep hS hk hC hlt⟩
    | 1 =>
      obtain ⟨h1, h2, h3⟩ := h
      refine ⟨by rw [e]; exact h1.keep hS hk hC hlt, fun b o sp n cap hrv => ?_, fun n cap hrv => ?_⟩
      · rw [e] at hrv
        rcases h2 b o sp n cap hrv with h4 | ⟨h4, arr, t, h5, h6⟩
        · exact .inl h4
        · obtain ⟨arr', g1, g2, _⟩ := hk.row h5
          exact .inr ⟨h4, arr', t, g1, by omega⟩
      · rw [e] at hrv; exact h3 n cap hrv
    | m + 2 =>
      show RelT S' w' (.list sz ts) (ρ' k).rv
      rw [e]; exact RelT.keep h hS hk hC hlt
  | map nr es =>
    obtain ⟨h0, arr, cl, h1, h2, h3⟩ := h
    refine ⟨h0, arr, cl, ?_, h2, fun i x m hx hm => ?_⟩
    · rw [e]; exact hk.map_same h1 fun o => hcl _ o rfl
    · obtain ⟨g1, g2⟩ := h3 i x m hx hm
      exact ⟨g1.keep hS hk hC hlt, mv g2⟩
  | gone => trivial
end mono

abbrev Gl := Nat → Option (List T)
def GlOk (gl : Gl) (S : Cells) (w : World) : Prop :=
  ∀ g cs, gl g = some cs → ∀ (i : Nat) (c : T), cs[i]? = some c → S g i ∧ ∃ u, w.cell? ⟨g, i, none⟩ = some u ∧ RelT S w c u
structure Mem (gl : Gl) (S : Cells) (w : World) (ρ : Infos) (own : Own) : Prop where
  lt : ∀ b o, S b o → b < w.heap.size
  blk : ∀ k blk, look k own = some blk → RelB S w ρ own k blk
  cl : ∀ k blk, look k own = some blk → ∀ b o, claim (ρ k) blk b o → b < w.heap.size ∧ ¬ S b o
  disj : ∀ k k' blk blk', look k own = some blk → look k' own = some blk' → k ≠ k' → ∀ b o, claim (ρ k) blk b o → ¬ claim (ρ k') blk' b o
  gl : GlOk gl S w

structure Base where
  w : World
  S : Cells
  ρ : Infos
  own : Own
def Base.C (B : Base) : Cells := Claims B.ρ B.own

structure Rel (Γ : Env) (B : Base) (S : Cells) (ρ : Infos) (st : St) (a : Act) (w : World) : Prop where
  mem : Mem Γ.gl S w ρ st.own
  keep : Keep B.C B.w w
  base : ∀ b o, B.S b o → b < B.w.heap.size
  sub : ∀ b o, B.S b o → S b o
  sup : ∀ b o, S b o → B.S b o ∨ B.C b o ∨ B.w.heap.size ≤ b
  clB : ∀ b o, Claims ρ st.own b o → B.C b o ∨ B.w.heap.size ≤ b
  le : OwnLe B.own st.own
  rho : ∀ k b, look k B.own = some b → ρ k = B.ρ k
  prot : ∀ k b, look k B.own = some b → k ∈ Γ.prot
  len : a.tmps.size = st.tm.length
  tm : ∀ (i : Nat) (v : V) (u : Value), st.tm[i]? = some v → a.tmps[i]? = some u → RelV S w ρ st.own v u
  defers : a.defers = []

theorem GlOk.mono {gl : Gl} {S S' C : Cells} {w w' : World} (h : GlOk gl S w) (hS : ∀ b o, S b o → S' b o) (hk : Keep C w w') (hC : ∀ b o, C b o → ¬ S b o) (hlt : ∀ b o, S b o → b < w.heap.size) : GlOk gl S' w' := by
  intro g cs hg i c hc
  obtain ⟨h1, u, h2, h3⟩ := h g cs hg i c hc
  exact ⟨hS _ _ h1, u, by rw [hk.cell (fun hc => hC _ _ hc h1) (hlt _ _ h1)]; exact h2, h3.keep hS hk hC hlt⟩

/-- THE MEMORY MOVES: each block is as it was, and nobody has touched it, or it is shown anew. -/
theorem Mem.move {gl : Gl} {S S' C : Cells} {ρ ρ' : Infos} {own own' : Own} {w w' : World} (h : Mem gl S w ρ own) (hk : Keep C w w') (hC : ∀ b o, C b o → ¬ S b o)
    (hS : ∀ b o, S b o → S' b o) (hlt : ∀ b o, S' b o → b < w'.heap.size) (hle : OwnLe own own') (hρ : ∀ k b, look k own = some b → ρ' k = ρ k)
    (hown : ∀ k blk, look k own' = some blk → (look k own = some blk ∧ ∀ b o, claim (ρ k) blk b o → ¬ C b o ∧ ¬ S' b o) ∨
      (RelB S' w' ρ' own' k blk ∧ ∀ b o, claim (ρ' k) blk b o → b < w'.heap.size ∧ ¬ S' b o))
    (hdisj : ∀ k k' blk blk', look k own' = some blk → look k' own' = some blk' → k ≠ k' → ∀ b o, claim (ρ' k) blk b o → ¬ claim (ρ' k') blk' b o) :
    Mem gl S' w' ρ' own' := by
  refine ⟨hlt, fun k blk hl => ?_, fun k blk hl b o hc => ?_, hdisj, h.gl.mono hS hk hC h.lt⟩
  · rcases hown k blk hl with ⟨h1, h2⟩ | h1
    · exact RelB.mono hS hk hC h.lt hle hρ h1 (fun b o hc => (h2 b o hc).1) (h.blk k blk h1)
    · exact h1.1
  · rcases hown k blk hl with ⟨h1, h2⟩ | h1
    · rw [hρ k blk h1] at hc
      exact ⟨Nat.lt_of_lt_of_le (h.cl k blk h1 b o hc).1 hk.size, (h2 b o hc).2⟩
    · exact h1.2 b o hc

/-- A MOVE of the whole. -/
theorem Rel.move {Γ : Env} {B : Base} {S S' C : Cells} {ρ ρ' : Infos} {tm : List V} {own own' : Own} {a : Act} {w w' : World}
    (h : Rel Γ B S ρ ⟨tm, own⟩ a w) (hm : Mem Γ.gl S' w' ρ' own') (hk : Keep C w w') (hC : ∀ b o, C b o → Claims ρ own b o)
    (hS : ∀ b o, S b o → S' b o) (hS' : ∀ b o, S' b o → S b o ∨ Claims ρ own b o ∨ w.heap.size ≤ b)
    (hle : OwnLe own own') (hρ : ∀ k b, look k own = some b → ρ' k = ρ k) (hcl : ∀ b o, Claims ρ' own' b o → Claims ρ own b o ∨ w.heap.size ≤ b) :
    Rel Γ B S' ρ' ⟨tm, own'⟩ a w' := by
  have hCS : ∀ b o, C b o → ¬ S b o := fun b o hc hs => by
    obtain ⟨k, blk, h1, h2⟩ := hC b o hc
    exact (h.mem.cl k blk h1 b o h2).2 hs
  refine ⟨hm, ?_, h.base, fun b o hb => hS b o (h.sub b o hb), fun b o hb => ?_, fun b o hb => ?_, h.le.trans hle, fun k b hb => ?_, h.prot, h.len, fun i v u hv hu => ?_, h.defers⟩
  · refine h.keep.comp hk fun x o hx hc => ?_
    rcases h.clB x o (hC x o hc) with hc | hc
    · exact hc
    · omega
  · rcases hS' b o hb with hb | hb | hb
    · exact h.sup b o hb
    · exact .inr (h.clB b o hb)
    · exact .inr (.inr (Nat.le_trans h.keep.size hb))
  · rcases hcl b o hb with hb | hb
    · exact h.clB b o hb
    · exact .inr (Nat.le_trans h.keep.size hb)
  · obtain ⟨b', hb', _⟩ := h.le k b hb
    rw [hρ k b' hb', h.rho k b hb]
  · exact RelV.mono hS hk hCS h.mem.lt hle hρ (h.tm i v u hv hu)

section
variable {Γ : Env} {B : Base} {S : Cells} {ρ : Infos} {tm : List V} {own : Own} {a : Act} {w : World}

theorem Rel.put {st : St} (h : Rel Γ B S ρ st a w) {d : Option Nat} {v : V} {u : Value} (hv : RelV S w ρ st.own v u) : Rel Γ B S ρ (st.put d v) (a.put d u) w := by
  cases d with
  | none => exact h
  | some d =>
    refine ⟨h.mem, h.keep, h.base, h.sub, h.sup, h.clB, h.le, h.rho, h.prot, ?_, ?_, h.defers⟩
    · simp [Act.put, St.put, h.len]
    · intro i v' u' hv' hu'
      simp only [Act.put, St.put] at hv' hu'
      by_cases e : d = i
      · subst e
        have hlt : d < st.tm.length := by
          rcases Nat.lt_or_ge d st.tm.length with h' | h'
          · exact h'
          · rw [List.getElem?_eq_none (by simpa using h')] at hv'; cases hv'
        rw [List.getElem?_set_self hlt] at hv'
        rw [Array.getElem?_setIfInBounds_self_of_lt (by rw [h.len]; exact hlt)] at hu'
        cases hv'; cases hu'
        exact hv
      · rw [List.getElem?_set_ne e] at hv'
        rw [Array.getElem?_setIfInBounds_ne e] at hu'
        exact h.tm i v' u' hv' hu'

theorem Rel.drawn (h : Rel Γ B S ρ ⟨tm, own⟩ a w) (n : Nat) : Rel Γ B S ρ ⟨tm, own⟩ a { w with drawn := n } := by
  have hk := Keep.drawn (fun _ _ => False) w n
  refine h.move ?_ hk (fun _ _ h => h.elim) (fun _ _ h => h) (fun _ _ h => .inl h) (.refl _) (fun _ _ _ => rfl) (fun _ _ h => .inl h)
  exact h.mem.move hk (fun _ _ h => h.elim) (fun _ _ h => h) h.mem.lt (.refl _) (fun _ _ _ => rfl)
    (fun k blk hl => .inl ⟨hl, fun b o hc => ⟨fun h => h, (h.mem.cl k blk hl b o hc).2⟩⟩) h.mem.disj

/-- A call of which it is known that what there was stays: its blocks are settled. -/
theorem Rel.called (h : Rel Γ B S ρ ⟨tm, own⟩ a w) {w' : World} (hb : Below w.heap.size w w') :
    Rel Γ B (fun b o => S b o ∨ (w.heap.size ≤ b ∧ b < w'.heap.size)) ρ ⟨tm, own⟩ a w' := by
  have hk := Keep.of_below (C := fun _ _ => False) hb
  refine h.move ?_ hk (fun _ _ h => h.elim) (fun _ _ h => .inl h) (fun b o h => ?_) (.refl _) (fun _ _ _ => rfl) (fun _ _ h => .inl h)
  · refine h.mem.move hk (fun _ _ h => h.elim) (fun _ _ h => .inl h) (fun b o hb' => ?_) (.refl _) (fun _ _ _ => rfl) (fun k blk hl => .inl ⟨hl, fun b o hc => ⟨fun h => h, fun hs => ?_⟩⟩) h.mem.disj
    · rcases hb' with hb' | hb'
      · exact Nat.lt_of_lt_of_le (h.mem.lt b o hb') hk.size
      · exact hb'.2
    · obtain ⟨h1, h2⟩ := h.mem.cl k blk hl b o hc
      rcases hs with hs | hs
      · exact h2 hs
      · omega
  · rcases h with h | h
    · exact .inl h
    · exact .inr (.inr h.1)

theorem look_cons {k j : Nat} {b : Blk} {own : Own} : look j ((k, b) :: own) = if j = k then some b else look j own := by
  simp only [look]
  by_cases e : k = j
  · subst e; simp
  · rw [if_neg e, if_neg (Ne.symm e)]
theorem Claims.cons {ρ : Infos} {own : Own} {k : Nat} {blk : Blk} {b o : Nat} (h : Claims ρ ((k, blk) :: own) b o) : claim (ρ k) blk b o ∨ ∃ j x, j ≠ k ∧ look j own = some x ∧ claim (ρ j) x b o := by
  obtain ⟨j, x, h1, h2⟩ := h
  rw [look_cons] at h1
  by_cases e : j = k
  · subst e; simp at h1; subst h1; exact .inl h2
  · simp [e] at h1; exact .inr ⟨j, x, e, h1, h2⟩

/-- A NEW KEY, whose block claims only what is new. -/
theorem Rel.grow (h : Rel Γ B S ρ ⟨tm, own⟩ a w) {w' : World} {S' : Cells} {k : Nat} {blk : Blk} (i : Info) (hf : look k own = none) (hk : Keep (fun _ _ => False) w w')
    (hS : ∀ b o, S b o → S' b o) (hS' : ∀ b o, S' b o → S b o ∨ (w.heap.size ≤ b ∧ b < w'.heap.size))
    (hcl : ∀ b o, claim i blk b o → w.heap.size ≤ b ∧ b < w'.heap.size ∧ ¬ S' b o)
    (hb : ∀ ρ' : Infos, ρ' k = i → (∀ j b, look j own = some b → ρ' j = ρ j) → RelB S' w' ρ' ((k, blk) :: own) k blk) :
    ∃ ρ' : Infos, ρ' k = i ∧ Rel Γ B S' ρ' ⟨tm, (k, blk) :: own⟩ a w' := by
  refine ⟨fun j => if j = k then i else ρ j, by simp, ?_⟩
  have hρ : ∀ j b, look j own = some b → (if j = k then i else ρ j) = ρ j := by
    intro j b hj
    rw [if_neg]
    intro e; subst e; rw [hf] at hj; cases hj
  have hF : ∀ b o, (fun _ _ => False : Cells) b o → ¬ S b o := fun _ _ h => h.elim
  have old : ∀ j x b o, look j own = some x → claim (ρ j) x b o → b < w.heap.size ∧ ¬ S' b o := fun j x b o hj hc => by
    obtain ⟨g1, g2⟩ := h.mem.cl j x hj b o hc
    refine ⟨g1, fun hs => ?_⟩
    rcases hS' b o hs with hs | hs
    · exact g2 hs
    · omega
  refine h.move ?_ hk (fun _ _ h => h.elim) hS (fun b o hb => (hS' b o hb).imp id fun h => .inr h.1) (OwnLe.cons blk hf) hρ fun b o hc => ?_
  · refine h.mem.move hk hF hS (fun b o hb => ?_) (OwnLe.cons blk hf) hρ (fun j x hj => ?_) (fun j j' x x' hj hj' hne b o hc hc' => ?_)
    · rcases hS' b o hb with hb | hb
      · exact Nat.lt_of_lt_of_le (h.mem.lt b o hb) hk.size
      · exact hb.2
    · rw [look_cons] at hj
      by_cases e : j = k
      · subst e
        simp at hj; subst hj
        refine .inr ⟨hb _ (by simp) hρ, fun b o hc => ?_⟩
        simp only [if_true] at hc
        obtain ⟨_, g1, g2⟩ := hcl b o hc
        exact ⟨g1, g2⟩
      · simp [e] at hj
        exact .inl ⟨hj, fun b o hc => ⟨fun h => h, (old j x b o hj hc).2⟩⟩
    · rw [look_cons] at hj hj'
      by_cases e : j = k
      · subst e
        simp [Ne.symm hne] at hj hj'
        subst hj
        simp only [if_true] at hc
        simp only [if_neg (Ne.symm hne)] at hc'
        have := (hcl b o hc).1
        have := (old j' x' b o hj' hc').1
        omega
      · simp [e] at hj
        simp only [if_neg e] at hc
        by_cases e' : j' = k
        · subst e'
          simp at hj'; subst hj'
          simp only [if_true] at hc'
          have := (hcl b o hc').1
          have := (old j x b o hj hc).1
          omega
        · simp [e'] at hj'
          simp only [if_neg e'] at hc'
          exact h.mem.disj j j' x x' hj hj' hne b o hc hc'
  · rcases hc.cons with hc | ⟨j, x, hj, h1, h2⟩
    · simp only [if_true] at hc
      exact .inr (hcl b o hc).1
    · simp only [if_neg hj] at h2
      exact .inl ⟨j, x, h1, h2⟩

/-- A KEY's BLOCK TURNED: it claims no more than it did, it writes what it claimed, and what it gives up may be settled. -/
theorem Rel.turn (h : Rel Γ B S ρ ⟨tm, own⟩ a w) {w' : World} {S' : Cells} {k : Nat} {blk blk' : Blk} (hl : look k own = some blk) (hle : Ble blk blk')
    (hk : Keep (claim (ρ k) blk) w w') (hS : ∀ b o, S b o → S' b o) (hS' : ∀ b o, S' b o → S b o ∨ claim (ρ k) blk b o)
    (hcl : ∀ b o, claim (ρ k) blk' b o → claim (ρ k) blk b o ∧ ¬ S' b o) (hb : RelB S' w' ρ (upd k blk' own) k blk') :
    Rel Γ B S' ρ ⟨tm, upd k blk' own⟩ a w' := by
  have hc0 := h.mem.cl k blk hl
  have hle' := OwnLe.upd hl hle
  have lk : ∀ j x, look j (upd k blk' own) = some x → (j = k ∧ x = blk') ∨ (j ≠ k ∧ look j own = some x) := fun j x hj => by
    rw [look_upd hl] at hj
    by_cases e : j = k
    · rw [if_pos e] at hj; cases hj; exact .inl ⟨e, rfl⟩
    · rw [if_neg e] at hj; exact .inr ⟨e, hj⟩
  refine h.move ?_ hk (fun b o hc => ⟨k, blk, hl, hc⟩) hS (fun b o hb => (hS' b o hb).imp id fun hc => .inl ⟨k, blk, hl, hc⟩) hle' (fun _ _ _ => rfl) fun b o hc => ?_
  · refine h.mem.move hk (fun b o hc => (hc0 b o hc).2) hS (fun b o hb => ?_) hle' (fun _ _ _ => rfl) (fun j x hj => ?_) (fun j j' x x' hj hj' hne b o hc hc' => ?_)
    · rcases hS' b o hb with hb | hb
      · exact Nat.lt_of_lt_of_le (h.mem.lt b o hb) hk.size
      · exact Nat.lt_of_lt_of_le (hc0 b o hb).1 hk.size
    · rcases lk j x hj with ⟨rfl, rfl⟩ | ⟨e, hj⟩
      · refine .inr ⟨hb, fun b o hc => ?_⟩
        obtain ⟨g1, g2⟩ := hcl b o hc
        exact ⟨Nat.lt_of_lt_of_le (hc0 b o g1).1 hk.size, g2⟩
      · refine .inl ⟨hj, fun b o hc => ⟨fun hc' => h.mem.disj j k x blk hj hl e b o hc hc', fun hs => ?_⟩⟩
        rcases hS' b o hs with hs | hs
        · exact (h.mem.cl j x hj b o hc).2 hs
        · exact h.mem.disj j k x blk hj hl e b o hc hs
    · rcases lk j x hj with ⟨e1, e2⟩ | ⟨e, hj2⟩
      · rw [e1, e2] at hc
        rcases lk j' x' hj' with ⟨e3, e4⟩ | ⟨e', hj2'⟩
        · exact hne (e1.trans e3.symm)
        · exact h.mem.disj k j' blk x' hl hj2' (fun e => e' e.symm) b o (hcl b o hc).1 hc'
      · rcases lk j' x' hj' with ⟨e3, e4⟩ | ⟨e', hj2'⟩
        · rw [e3, e4] at hc'
          exact h.mem.disj j k x blk hj2 hl e b o hc (hcl b o hc').1
        · exact h.mem.disj j j' x x' hj2 hj2' hne b o hc hc'
  · obtain ⟨j, x, hj, hc⟩ := hc
    rcases lk j x hj with ⟨e1, e2⟩ | ⟨e, hj⟩
    · rw [e1, e2] at hc; exact .inl ⟨_, _, hl, (hcl b o hc).1⟩
    · exact .inl ⟨j, x, hj, hc⟩

/-- what an operand's slot holds -/
theorem Rel.ev (h : Rel Γ B S ρ ⟨tm, own⟩ a w) {i : Nat} {v : V} (hv : tm[i]? = some v) : RelV S w ρ own v (a.tmps.getD i undef) := by
  have hlt : i < a.tmps.size := by
    rw [h.len]
    rcases Nat.lt_or_ge i tm.length with h' | h'
    · exact h'
    · rw [List.getElem?_eq_none h'] at hv; cases hv
  have e : a.tmps[i]? = some (a.tmps.getD i undef) := by simp [hlt]
  exact h.tm i v _ hv e
end
end Go.Nx
