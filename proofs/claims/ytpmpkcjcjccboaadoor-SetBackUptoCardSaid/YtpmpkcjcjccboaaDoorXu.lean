/-
  WHATEVER THE ORDER.
-/
import Derived.Test.YtpmpkcjcjccboaaDoorXt
set_option linter.unusedVariables false
set_option linter.unusedSimpArgs false
namespace Go.Nx
open Go.RowKit

inductive Prec (pre : Nat → List Nat) : Nat → Nat → Prop
  | one {j i : Nat} : i ∈ pre j → Prec pre j i
  | more {j p i : Nat} : p ∈ pre j → Prec pre p i → Prec pre j i
theorem Prec.closed {pre : Nat → List Nat} {X : Nat → Prop} (hX : ∀ j, X j → ∀ p ∈ pre j, X p) {j i : Nat} (h : Prec pre j i) : (∀ p ∈ pre j, X p) → X i := by
  induction h with
  | one h => exact fun hp => hp _ h
  | more h _ ih => exact fun hp => ih (hX _ (hp _ h))

theorem mask_spec (acc : List Nat) (i : Nat) : ∀ p : List Nat, (maskOf acc p).testBit i = true → ∃ q ∈ p, i = q ∨ ((acc[q]?).getD 0).testBit i = true := by
  intro p
  induction p with
  | nil => intro h; simp [maskOf] at h
  | cons q p ih =>
    intro h
    simp only [maskOf, Nat.testBit_or, Bool.or_eq_true] at h
    rcases h with (h | h) | h
    · refine ⟨q, by simp, .inl ?_⟩
      rw [Nat.one_shiftLeft, Nat.testBit_two_pow] at h
      simpa using (of_decide_eq_true h).symm
    · exact ⟨q, by simp, .inr h⟩
    · obtain ⟨q', h1, h2⟩ := ih h
      exact ⟨q', by simp [h1], h2⟩
theorem closure_spec (pl : List (List Nat)) : ∀ (l : List (List Nat)) (acc : List Nat), (∀ (n : Nat) (p : List Nat), l[n]? = some p → (pl[acc.length + n]?).getD [] = p) →
    (∀ j i, ((acc[j]?).getD 0).testBit i = true → Prec (fun j => (pl[j]?).getD []) j i) → ∀ j i, (((closure l acc)[j]?).getD 0).testBit i = true → Prec (fun j => (pl[j]?).getD []) j i := by
  intro l
  induction l with
  | nil => intro acc _ h; exact h
  | cons p l ih =>
    intro acc hp h
    simp only [closure]
    refine ih _ (fun n q hq => ?_) fun j i hi => ?_
    · have := hp (n + 1) q (by simpa using hq)
      rw [← this]
      simp only [List.length_append, List.length_cons, List.length_nil]
      rw [show acc.length + (0 + 1) + n = acc.length + (n + 1) by omega]
    · rw [List.getElem?_append] at hi
      split at hi
      · exact h j i hi
      · rename_i hge
        by_cases e : j = acc.length
        · subst e
          simp only [Nat.sub_self, List.getElem?_cons_zero, Option.getD_some] at hi
          have h0 := hp 0 p rfl
          simp only [Nat.add_zero] at h0
          obtain ⟨q, hq, hi⟩ := mask_spec _ _ _ hi
          rcases hi with rfl | hi
          · exact .one (by rw [h0]; exact hq)
          · exact .more (by rw [h0]; exact hq) (h q i hi)
        · have : j - acc.length ≠ 0 := by omega
          rw [List.getElem?_eq_none (by simp; omega)] at hi
          simp at hi

theorem pairsAt_spec {ml : List MOp} {cl : List Nat} {j : Nat} : ∀ (l : List Nat) (r : List (Nat × Nat)), pairsAt ml cl j l = some r → ∀ i ∈ l, ∃ x y, ml[i]? = some x ∧ ml[j]? = some y ∧
    (((cl[j]?).getD 0).testBit i = true ∨ (apartT x y = true ∧ (needPair x y = true → (i, j) ∈ r))) := by
  intro l
  induction l with
  | nil => intro r _ i hi; cases hi
  | cons i0 l ih =>
    intro r h i hi
    simp only [pairsAt] at h
    split at h
    · rename_i x y l' h1 h2 h3
      have hrest := ih l' h3
      have mem : ∀ {a : Nat × Nat}, a ∈ l' → a ∈ r := by
        intro a ha
        split at h
        · cases h; exact ha
        · split at h
          · split at h
            · cases h; exact List.mem_cons_of_mem _ ha
            · cases h; exact ha
          · cases h
      rcases List.mem_cons.1 hi with rfl | hi
      · refine ⟨x, y, h1, h2, ?_⟩
        split at h
        · rename_i hc; exact .inl (by simpa using hc)
        · split at h
          · rename_i ha
            refine .inr ⟨ha, fun hn => ?_⟩
            rw [if_pos hn] at h
            cases h; exact List.mem_cons_self
          · cases h
      · obtain ⟨x', y', g1, g2, g3⟩ := hrest i hi
        refine ⟨x', y', g1, g2, ?_⟩
        rcases g3 with g3 | ⟨g3, g4⟩
        · exact .inl g3
        · exact .inr ⟨g3, fun hn => mem (g4 hn)⟩
    · cases h
theorem pairsOf_spec {ml : List MOp} {cl : List Nat} : ∀ (l : List Nat) (r : List (Nat × Nat)), pairsOf ml cl l = some r → ∀ j ∈ l, ∃ r', pairsAt ml cl j (List.range j) = some r' ∧ ∀ a ∈ r', a ∈ r := by
  intro l
  induction l with
  | nil => intro r _ i hi; cases hi
  | cons j0 l ih =>
    intro r h j hj
    simp only [pairsOf] at h
    split at h
    · rename_i a b h1 h2
      cases h
      rcases List.mem_cons.1 hj with rfl | hj
      · exact ⟨a, h1, fun x hx => List.mem_append.2 (.inl hx)⟩
      · obtain ⟨r', g1, g2⟩ := ih b h2 j hj
        exact ⟨r', g1, fun x hx => List.mem_append.2 (.inr (g2 x hx))⟩
    · cases h
theorem meets_spec {k : Nat} {b : Bool} : ∀ {m : Log}, meets k b m = false → ∀ c, (k, c) ∈ m → b = false ∧ c = false
  | [], _, c, hm => by cases hm
  | (j, c') :: r, h, c, hm => by
    simp only [meets] at h
    split at h
    · rename_i e
      split at h
      · cases h
      · split at h
        · cases h
        · rcases List.mem_cons.1 hm with hm | hm
          · cases hm; exact ⟨rfl, rfl⟩
          · exact meets_spec h c hm
    · rename_i e
      rcases List.mem_cons.1 hm with hm | hm
      · cases hm; rw [Nat.beq_refl] at e; cases e
      · exact meets_spec h c hm
theorem apartK_spec {m : Log} : ∀ {l : Log}, apartK l m = true → ∀ k b c, (k, b) ∈ l → (k, c) ∈ m → b = false ∧ c = false
  | [], _, k, b, c, hk, _ => by cases hk
  | p :: l, h, k, b, c, hk, hm => by
    simp only [apartK] at h
    split at h
    · cases h
    · rename_i e
      rcases List.mem_cons.1 hk with rfl | hk
      · exact meets_spec e c hm
      · exact apartK_spec h k b c hk hm
theorem nthL_eq (l : List Log) (n : Nat) : nthL l n = (l[n]?).getD [] := by
  induction l generalizing n with
  | nil => simp [nthL]
  | cons x r ih => cases n <;> simp [nthL, ih]
theorem chkPairs_spec {log : List Log} : ∀ {ps : List (Nat × Nat)}, chkPairs log ps = true → ∀ p ∈ ps, ∀ k b c, (k, b) ∈ (log[p.1]?).getD [] → (k, c) ∈ (log[p.2]?).getD [] → b = false ∧ c = false
  | [], _, p, hp => by cases hp
  | q :: ps, h, p, hp => by
    simp only [chkPairs] at h
    split at h
    · rename_i e
      rcases List.mem_cons.1 hp with rfl | hp
      · rw [nthL_eq, nthL_eq] at e; exact apartK_spec e
      · exact chkPairs_spec h p hp
    · cases h
theorem edgesOk_spec : ∀ (l : List Oper) (i : Nat), edgesOk i l = true → ∀ (n : Nat) (o : Oper), l[n]? = some o → ∀ p ∈ preOf o, p < i + n := by
  intro l
  induction l with
  | nil => intro i _ n o h; simp at h
  | cons x l ih =>
    intro i h n o ho p hp
    simp only [edgesOk, Bool.and_eq_true] at h
    cases n with
    | zero => simp at ho; subst ho; have := List.all_eq_true.1 h.1 p hp; simpa using this
    | succ n => have := ih (i + 1) h.2 n o (by simpa using ho) p hp; omega
theorem mem_preOf {o : Oper} {e : Edge} (he : e ∈ o.after) (hb : Region.binds .any e = true) : e.on ∈ preOf o := by
  unfold preOf
  exact List.mem_map.2 ⟨e, List.mem_filter.2 ⟨by simpa using he, hb⟩, rfl⟩
theorem of_mem_preOf {o : Oper} {p : Nat} (h : p ∈ preOf o) : ∃ e ∈ o.after, Region.binds .any e = true ∧ e.on = p := by
  unfold preOf at h
  obtain ⟨e, he, rfl⟩ := List.mem_map.1 h
  obtain ⟨h1, h2⟩ := List.mem_filter.1 he
  exact ⟨e, by simpa using h1, h2, rfl⟩
theorem lowOps_get {P : Program} {ops : Array Oper} : ∀ (l : List Oper) (ml : List MOp), lowOps P ops l = some ml → ml.length = l.length ∧
    ∀ (n : Nat) (o : Oper), l[n]? = some o → ∃ k g, lowOp P o = some k ∧ lowG ops o = some g ∧ ml[n]? = some ⟨o.dst, k, g⟩ := by
  intro l
  induction l with
  | nil => intro ml h; simp [lowOps] at h; subst h; exact ⟨rfl, fun n o h => by simp at h⟩
  | cons o r ih =>
    intro ml h
    obtain ⟨k, g, l', h1, h2, h3, rfl⟩ := lowOps_cons h
    obtain ⟨g1, g2⟩ := ih l' h3
    refine ⟨by simp [g1], fun n o' ho => ?_⟩
    cases n with
    | zero => simp at ho; subst ho; exact ⟨k, g, h1, h2, rfl⟩
    | succ n => simpa using g2 n o' (by simpa using ho)

section
variable {P : Program} {Γ : Env} {B : Base} {Q : Exit → Act → World → Prop}

theorem good_congr {st st' : St} {a : Act} {w : World} (h : Good Γ B st a w) (ht : st'.tm = st.tm) (ho : ∀ k, look k st'.own = look k st.own) : Good Γ B st' a w := by
  obtain ⟨S, ρ, hr⟩ := h
  obtain ⟨tm, own⟩ := st
  obtain ⟨tm', own'⟩ := st'
  cases ht
  have hle : OwnLe own own' := fun k b hb => ⟨b, by rw [ho]; exact hb, .refl b⟩
  refine ⟨S, ρ, hr.move (C := fun _ _ => False) ?_ (Keep.refl _ w) (fun _ _ h => h.elim) (fun _ _ h => h) (fun _ _ h => .inl h) hle (fun _ _ _ => rfl) fun b o hc => .inl ?_⟩
  · exact hr.mem.move (C := fun _ _ => False) (Keep.refl _ w) (fun _ _ h => h.elim) (fun _ _ h => h) hr.mem.lt hle (fun _ _ _ => rfl)
      (fun k blk hk => by
        rw [ho] at hk
        exact .inl ⟨hk, fun b o hc => ⟨fun h => h, (hr.mem.cl k blk hk b o hc).2⟩⟩)
      (fun k k' b b' hk hk' => hr.mem.disj k k' b b' (by rw [← ho]; exact hk) (by rw [← ho]; exact hk'))
  · obtain ⟨k, blk, h1, h2⟩ := hc
    exact ⟨k, blk, by rw [← ho]; exact h1, h2⟩

/-- how many are not listed yet -/
def unl (n : Nat) (listed : Array Bool) : Nat := ((List.range n).filter fun i => !listed.getD i true).length
theorem unl_set {n : Nat} {listed : Array Bool} {i : Nat} (hs : listed.size = n) (hi : i < n) (hu : listed.getD i true = false) : unl n (listed.setIfInBounds i true) < unl n listed := by
  unfold unl
  have h1 : ∀ j, ((listed.setIfInBounds i true).getD j true) = (if j = i then true else listed.getD j true) := by
    intro j
    by_cases e : j = i
    · subst e; simp [hs, hi]
    · rw [if_neg e, getD_set_ne true (Ne.symm e)]
  rw [← List.countP_eq_length_filter, ← List.countP_eq_length_filter]
  have h2 : (List.range n).countP (fun j => !(listed.setIfInBounds i true).getD j true) + (List.range n).countP (fun j => j == i) ≤ (List.range n).countP (fun j => !listed.getD j true) := by
    generalize List.range n = l
    induction l with
    | nil => simp
    | cons j l ih =>
      simp only [List.countP_cons, h1]
      simp only [h1] at ih
      by_cases e : j = i
      · subst e; simp [hu] at ih ⊢; omega
      · simp only [e, if_false, beq_iff_eq] at ih ⊢
        split <;> omega
  have h3 : 0 < (List.range n).countP (fun j => j == i) := List.countP_pos_iff.2 ⟨i, by simp [hi], by simp⟩
  omega

theorem any_order (hΓ : EnvOk P Γ) {ops : Array Oper} {ml : List MOp} {rs : List Rec} {ks : List Log} {st0 stF : St} {pairs : List (Nat × Nat)} (hl : lowOps P ops ops.toList = some ml) (hc : Chain Γ ml rs ks st0 stF)
    (hd : lowDraw ops.toList ml = some pairs) (hk : chkPairs ks pairs = true) (hQ : ∀ a' w', Good Γ B stF a' w' → Q .normal a' w') :
    ∀ (fuel : Nat) (listed : Array Bool) (a : Act) (w : World), listed.size = ops.size → (∀ j, listed.getD j false = true → ∀ o, ops[j]? = some o → ∀ p ∈ preOf o, listed.getD p false = true) → unl ops.size listed ≤ fuel →
      Good Γ B (aft (fun j => listed.getD j false) 0 ml rs st0) a w → wpAny P .any ops Q fuel listed a w := by
  obtain ⟨hlen, hget⟩ := lowOps_get _ _ hl
  have hlen' : ml.length = ops.size := by simpa using hlen
  obtain ⟨hrs, hks⟩ := hc.lens
  have hskip := hc.skips
  unfold lowDraw at hd
  split at hd
  case isFalse => cases hd
  rename_i hedges
  have hedge := edgesOk_spec _ _ hedges
  -- the edges' relation
  let pl := ops.toList.map preOf
  have hpre : ∀ (j : Nat) (o : Oper), ops[j]? = some o → (pl[j]?).getD [] = preOf o := fun j o ho => by
    have : ops.toList[j]? = some o := by simpa using ho
    simp [pl, ho]
  have hcl : ∀ j i, (((closure pl [])[j]?).getD 0).testBit i = true → Prec (fun j => (pl[j]?).getD []) j i :=
    closure_spec pl pl [] (fun n p hp => by simp [hp]) (fun j i hi => by simp at hi)
  -- two of which none must go ahead
  have conf : ∀ i j, i < j → j < ml.length → ∃ x y, ml[i]? = some x ∧ ml[j]? = some y ∧ (Prec (fun j => (pl[j]?).getD []) j i ∨ (apartT x y = true ∧ (needPair x y = true → ∀ k b c, (k, b) ∈ (ks[i]?).getD [] → (k, c) ∈ (ks[j]?).getD [] → b = false ∧ c = false))) := by
    intro i j hij hj
    obtain ⟨r', h1, h2⟩ := pairsOf_spec _ _ hd j (by simpa using hj)
    obtain ⟨x, y, h3, h4, h5⟩ := pairsAt_spec _ _ h1 i (by simpa using hij)
    refine ⟨x, y, h3, h4, ?_⟩
    rcases h5 with h5 | ⟨h5, h6⟩
    · exact .inl (hcl j i h5)
    · exact .inr ⟨h5, fun hn => chkPairs_spec hk (i, j) (h2 _ (h6 hn))⟩
  intro fuel
  induction fuel with
  | zero =>
    intro listed a w hsz hclosed hun hg
    have hall : ∀ j, j < ops.size → listed.getD j false = true := by
      intro j hj
      have h0 : (List.range ops.size).filter (fun i => !listed.getD i true) = [] := List.length_eq_zero_iff.1 (Nat.le_zero.1 hun)
      have := List.filter_eq_nil_iff.1 h0 j (by simpa using hj)
      simp at this
      simpa [hsz, hj] using this
    refine ⟨?_, hQ _ _ ?_⟩
    · unfold Region.ready
      rw [List.filter_eq_nil_iff]
      intro j hj
      have := hall j (by simpa using hj)
      have hj' : j < listed.size := by rw [hsz]; simpa using hj
      simp [hj'] at this ⊢
      intro h; rw [this] at h; cases h
    · rw [hc.all _ 0 (fun j _ hj => hall j (by omega))] at hg
      exact hg
  | succ fuel ih =>
    intro listed a w hsz hclosed hun hg
    refine ⟨fun hready => ?_, fun i hi => ?_⟩
    · -- none is ready: all are done
      have hall : ∀ j, j < ops.size → listed.getD j false = true := by
        intro j
        induction j using Nat.strongRecOn with
        | _ j ihj =>
          intro hj
          by_cases e : listed.getD j false = true
          · exact e
          · exfalso
            have hmem : j ∈ Region.ready .any ops listed := by
              rw [mem_ready]
              have hj' : j < listed.size := by omega
              refine ⟨by simpa [hj'] using e, ops[j], by simp [hj], fun ed he hb => ?_⟩
              have h1 := hedge j ops[j] (by simp [hj]) _ (mem_preOf he hb)
              exact ihj ed.on (by omega) (by omega)
            rw [hready] at hmem; cases hmem
      have := hg
      rw [hc.all _ 0 (fun j _ hj => hall j (by omega))] at this
      exact hQ _ _ this
    · obtain ⟨hiu, o, ho, hpred⟩ := mem_ready.1 hi
      have hin : i < ops.size := (Array.getElem?_eq_some_iff.1 ho).1
      have hil : i < listed.size := by omega
      have hXi : listed.getD i false = false := by simpa [hil] using hiu
      obtain ⟨mk, g, hm1, hm2, hm3⟩ := hget i o (by simpa using ho)
      have hir : i < rs.length := by omega
      have hik : i < ks.length := by omega
      have hr : rs[i]? = some rs[i] := by simp [hir]
      have hkk : ks[i]? = some ks[i] := by simp [hik]
      generalize rs[i] = r at hr
      generalize ks[i] = kk at hkk
      have node := hc.at i 0 _ _ _ hm3 hr hkk
      simp only [Nat.zero_add] at node
      -- who must go ahead of i has been done; who must go behind has not
      have hpreX : ∀ p ∈ (pl[i]?).getD [], listed.getD p false = true := fun p hp => by
        rw [hpre i o ho] at hp
        obtain ⟨e, he, hb, rfl⟩ := of_mem_preOf hp
        exact hpred e he hb
      have hclosed' : ∀ j, listed.getD j false = true → ∀ p ∈ (pl[j]?).getD [], listed.getD p false = true := fun j hj p hp => by
        cases e : ops[j]? with
        | none =>
          have : pl[j]? = none := by simp [pl, e]
          rw [this] at hp; simp at hp
        | some oj => rw [hpre j oj e] at hp; exact hclosed j hj oj e p hp
      have ahead : ∀ n, Prec (fun j => (pl[j]?).getD []) i n → listed.getD n false = true := fun n hp => hp.closed hclosed' hpreX
      have behind : ∀ n, Prec (fun j => (pl[j]?).getD []) n i → listed.getD n false = true → False := fun n hp hn => by
        have := hp.closed hclosed' (hclosed' n hn)
        rw [hXi] at this; cases this
      -- the keys that one looks at, or writes
      have ksOf : ∀ (n : Nat) (m : MOp) (k : Nat) (c : Bool), ml[n]? = some m → (k, c) ∈ (ks[n]?).getD [] → hasK m.op = true := by
        intro n m k c hm hk
        have hn : n < ks.length := by
          rcases Nat.lt_or_ge n ml.length with h | h
          · omega
          · rw [List.getElem?_eq_none h] at hm; cases hm
        have hn' : n < rs.length := by omega
        simp only [List.getElem?_eq_getElem hn, Option.getD_some] at hk
        have := hc.at n 0 m rs[n] ks[n] hm (by simp [hn']) (by simp [hn])
        cases e : hasK m.op
        · rcases this with ⟨_, _, h1⟩ | ⟨h1, h2, h3⟩
          · rw [h1.has e] at hk; cases hk
          · have := hskip n m rs[n] ks[n] hm (by simp [hn']) (by simp [hn]) h1
            rw [this] at hk; cases hk
        · rfl
      have wkeys : ∀ (n : Nat) (m : MOp) (r : Rec) (k : Nat) (b : Blk), ml[n]? = some m → rs[n]? = some r → wlook k r.out.ws = some b → (k, true) ∈ (ks[n]?).getD [] := by
        intro n m r k b hm hr hu
        have hn : n < ks.length := by
          rcases Nat.lt_or_ge n ml.length with h | h
          · omega
          · rw [List.getElem?_eq_none h] at hm; cases hm
        simp only [List.getElem?_eq_getElem hn, Option.getD_some]
        have := hc.at n 0 m r ks[n] hm hr (by simp [hn])
        rcases this with ⟨_, _, h1⟩ | ⟨_, _, h1⟩
        · exact h1.ws _ (wlook_mem hu)
        · rw [h1] at hu; cases hu
      -- what is done of what conflicts with i is what stands ahead of it
      have dfT : ∀ (n : Nat) (m : MOp) (t : Nat), ml[n]? = some m → (listed.getD n false ≠ decide (n < i)) → t ∈ rdT ⟨o.dst, mk, g⟩ → m.d ≠ some t := by
        intro n m t hm hne ht hd
        have hn : n < ml.length := by
          rcases Nat.lt_or_ge n ml.length with h | h
          · exact h
          · rw [List.getElem?_eq_none h] at hm; cases hm
        rcases Nat.lt_trichotomy n i with hlt | rfl | hgt
        · have hX : listed.getD n false = false := by
            cases e : listed.getD n false
            · rfl
            · rw [e] at hne; simp [hlt] at hne
          obtain ⟨x, y, h1, h2, h3⟩ := conf n i hlt (by omega)
          rw [hm] at h1; cases h1
          rw [hm3] at h2; cases h2
          rcases h3 with h3 | ⟨h3, _⟩
          · rw [ahead n h3] at hX; cases hX
          · simp [apartT, hd] at h3
            exact absurd ht h3.1.1
        · rw [hXi] at hne; simp at hne
        · have hX : listed.getD n false = true := by
            cases e : listed.getD n false
            · rw [e] at hne; simp at hne; omega
            · rfl
          obtain ⟨x, y, h1, h2, h3⟩ := conf i n hgt hn
          rw [hm] at h2; cases h2
          rw [hm3] at h1; cases h1
          rcases h3 with h3 | ⟨h3, _⟩
          · exact behind n h3 hX
          · simp only [apartT, hd, Bool.and_eq_true] at h3
            have := h3.2
            simp at this
            exact absurd ht this
      have mlOf : ∀ (n : Nat) (r' : Rec), rs[n]? = some r' → ∃ m', ml[n]? = some m' := by
        intro n r' hr'
        have hn : n < ml.length := by
          rw [← hrs]
          rcases Nat.lt_or_ge n rs.length with h | h
          · exact h
          · rw [List.getElem?_eq_none h] at hr'; cases hr'
        exact ⟨ml[n], by simp [hn]⟩
      have dfK : ∀ (n : Nat) (r' : Rec) (k : Nat) (c : Bool), rs[n]? = some r' → (listed.getD n false ≠ decide (n < i)) → (k, c) ∈ kk → wlook k r'.out.ws = none := by
        intro n r' k c hr' hne hkk'
        cases hu : wlook k r'.out.ws with
        | none => rfl
        | some b =>
        exfalso
        obtain ⟨m', hm'⟩ := mlOf n r' hr'
        have w1 := wkeys n m' r' k b hm' hr' hu
        have w3 := ksOf n m' k true hm' w1
        have w5 : (ks[i]?).getD [] = kk := by rw [hkk]; rfl
        have w4 : hasK mk = true := ksOf i _ k c hm3 (by rw [w5]; exact hkk')
        rcases Nat.lt_trichotomy n i with hlt | rfl | hgt
        · have hX : listed.getD n false = false := by
            cases e : listed.getD n false
            · rfl
            · rw [e] at hne; simp [hlt] at hne
          obtain ⟨x, y, h1, h2, h3⟩ := conf n i hlt (by omega)
          rw [hm'] at h1; cases h1
          rw [hm3] at h2; cases h2
          rcases h3 with h3 | ⟨_, h3⟩
          · rw [ahead n h3] at hX; cases hX
          · have := (h3 (by simp only [needPair, w3, w4]; rfl) k true c w1 (by rw [w5]; exact hkk')).1
            cases this
        · rw [hXi] at hne; simp at hne
        · have hX : listed.getD n false = true := by
            cases e : listed.getD n false
            · rw [e] at hne; simp at hne; omega
            · rfl
          have hn : n < ml.length := by
            rcases Nat.lt_or_ge n ml.length with h | h
            · exact h
            · rw [List.getElem?_eq_none h] at hm'; cases hm'
          obtain ⟨x, y, h1, h2, h3⟩ := conf i n hgt hn
          rw [hm'] at h2; cases h2
          rw [hm3] at h1; cases h1
          rcases h3 with h3 | ⟨_, h3⟩
          · exact behind n h3 hX
          · have := (h3 (by simp only [needPair, w3, w4]; rfl) k c true (by rw [w5]; exact hkk') w1).2
            cases this
      -- behind i none that has been done writes what i writes
      have lastT : ∀ (n : Nat) (m' : MOp) (t : Nat), i < n → ml[n]? = some m' → listed.getD n false = true → o.dst = some t → m'.d ≠ some t := by
        intro n m' t hgt hm' hX ht hd
        have hn : n < ml.length := by
          rcases Nat.lt_or_ge n ml.length with h | h
          · exact h
          · rw [List.getElem?_eq_none h] at hm'; cases hm'
        obtain ⟨x, y, h1, h2, h3⟩ := conf i n hgt hn
        rw [hm'] at h2; cases h2
        rw [hm3] at h1; cases h1
        rcases h3 with h3 | ⟨h3, _⟩
        · exact behind n h3 hX
        · simp [apartT, ht, hd] at h3
      have hsig : ∀ t ∈ rdT ⟨o.dst, mk, g⟩, (aft (fun j => listed.getD j false) 0 ml rs st0).tm[t]? = (aft (fun j => decide (j < i)) 0 ml rs st0).tm[t]? := fun t ht =>
        aft_tm _ _ t ml rs 0 st0 st0 rfl rfl fun n m hm hne => dfT n m t hm (by simpa using hne) ht
      -- behind it
      have fin : ∀ a' w', Good Γ B (r.on ⟨o.dst, mk, g⟩ (aft (fun j => listed.getD j false) 0 ml rs st0)) a' w' → wpAny P .any ops Q fuel (listed.setIfInBounds i true) a' w' := by
        intro a' w' hg'
        have hX' : ∀ n, (listed.setIfInBounds i true).getD n false = if n = i then true else listed.getD n false := by
          intro n
          by_cases e : n = i
          · subst e; simp [hil]
          · rw [if_neg e, getD_set_ne false (Ne.symm e)]
        refine ih _ _ _ (by simpa using hsz) ?_ (by have := unl_set hsz hin hiu; omega) (good_congr hg' ?_ ?_)
        · intro j hj oj hoj p hp
          rw [hX'] at hj ⊢
          by_cases e : p = i
          · simp [e]
          · rw [if_neg e]
            by_cases e2 : j = i
            · subst e2
              rw [ho] at hoj; cases hoj
              obtain ⟨ed, he, hb, rfl⟩ := of_mem_preOf hp
              exact hpred ed he hb
            · rw [if_neg e2] at hj
              exact hclosed j hj oj hoj p hp
        · apply List.ext_getElem?
          intro t
          rw [on_tm]
          by_cases e : o.dst = some t ∧ t < (aft (fun j => listed.getD j false) 0 ml rs st0).tm.length
          · rw [if_pos e]
            refine aft_tm_last _ t i ml rs 0 st0 _ r hm3 hr (by simp [hX']) e.1 (by rw [aft_len] at e; exact e.2) fun n' m' hlt hm' hx' => ?_
            simp only [Nat.zero_add, hX'] at hx'
            rw [if_neg (by omega)] at hx'
            exact lastT n' m' t hlt hm' hx' e.1
          · rw [if_neg e]
            by_cases ht : t < st0.tm.length
            · refine aft_tm _ _ t ml rs 0 st0 st0 rfl rfl fun n m hm hne => ?_
              simp only [Nat.zero_add, hX'] at hne
              by_cases e2 : n = i
              · subst e2
                rw [hm3] at hm; cases hm
                intro hd'
                exact e ⟨hd', by rw [aft_len]; exact ht⟩
              · rw [if_neg e2] at hne; exact absurd rfl hne
            · rw [List.getElem?_eq_none (by rw [aft_len]; omega), List.getElem?_eq_none (by rw [aft_len]; omega)]
        · intro k
          rw [on_own]
          cases hp : wlook k r.out.ws with
          | some bk =>
            refine aft_own_last _ k bk i ml rs 0 st0 _ r hm3 hr (by simp [hX']) hp fun n' r' hlt hr' hx' => ?_
            simp only [Nat.zero_add, hX'] at hx'
            rw [if_neg (by omega)] at hx'
            cases hu : wlook k r'.out.ws with
            | none => rfl
            | some b' =>
            exfalso
            have v1 := wkeys i _ r k bk hm3 hr hp
            have v3 := ksOf i _ k true hm3 v1
            obtain ⟨m', hm'⟩ := mlOf n' r' hr'
            have w1 := wkeys n' m' r' k b' hm' hr' hu
            have w3 := ksOf n' m' k true hm' w1
            have hn : n' < ml.length := by
              rcases Nat.lt_or_ge n' ml.length with h | h
              · exact h
              · rw [List.getElem?_eq_none h] at hm'; cases hm'
            obtain ⟨x, y, h1, h2, h3⟩ := conf i n' hlt hn
            rw [hm'] at h2; cases h2
            rw [hm3] at h1; cases h1
            rcases h3 with h3 | ⟨_, h3⟩
            · exact behind n' h3 hx'
            · have := (h3 (by simp only [needPair, w3, v3]; rfl) k true true v1 w1).1
              cases this
          | none =>
            refine aft_own _ _ k ml rs 0 st0 st0 rfl fun n r' hr' hne => ?_
            simp only [Nat.zero_add, hX'] at hne
            by_cases e2 : n = i
            · subst e2
              rw [hr] at hr'; cases hr'
              exact hp
            · rw [if_neg e2] at hne; exact absurd rfl hne
      unfold wpOp
      simp only [ho]
      rcases node with ⟨_, n1, n2⟩ | ⟨_, ⟨t, b, n1, n2⟩, n3⟩
      · have hw : Region.wanted o (yielded ops a.tmps) = true := by
          rcases lowG_spec hm2 with ⟨rfl, hgd⟩ | ⟨j, t, b, rfl, hgd, hdst⟩
          · simp [Region.wanted, hgd]
          · rcases n1 with n1 | ⟨t', b', n1, n4⟩
            · cases n1
            · cases n1
              have h5 := hsig t (by simp [rdT])
              rw [n4] at h5
              have := (guard_slot hg hdst h5).1 b rfl
              simp [Region.wanted, hgd, this]
        rw [if_pos hw]
        refine .inl (step_good hΓ hm1 (dr := true) (K := fun st _ => st = r.on ⟨o.dst, mk, g⟩ (aft (fun j => listed.getD j false) 0 ml rs st0)) ?_ hg fun st' _ a' w' hK hg' => fin a' w' (hK ▸ hg'))
        refine n2.run _ _ ⟨by rw [aft_len, aft_len], fun x hx t ht => ?_, fun k c hk => ?_⟩ _ rfl
        · subst ht
          exact hsig t (by
            simp only [rdT, List.mem_append]
            exact .inr (List.mem_flatMap.2 ⟨_, hx, by simp [opdT]⟩))
        · exact aft_own _ _ k ml rs 0 st0 st0 rfl fun n r' hr' hne => dfK n r' k c hr' (by simpa using hne) hk
      · have hw : Region.wanted o (yielded ops a.tmps) = false := by
          rcases lowG_spec hm2 with ⟨rfl, hgd⟩ | ⟨j, t', b', rfl, hgd, hdst⟩
          · cases n1
          · cases n1
            have h5 := hsig t (by simp [rdT])
            rcases n2 with n2 | ⟨l, n2⟩
            · rw [n2] at h5
              have := (guard_slot hg hdst h5).1 _ rfl
              simp [Region.wanted, hgd, this]
            · rw [n2] at h5
              have := (guard_slot hg hdst h5).2 l rfl
              simp [Region.wanted, hgd, this]
        rw [if_neg (by simp [hw])]
        refine fin _ _ ?_
        have := good_put hg o.dst
        rw [show r.on ⟨o.dst, mk, g⟩ (aft (fun j => listed.getD j false) 0 ml rs st0) = (aft (fun j => listed.getD j false) 0 ml rs st0).put o.dst (.t .undef) by
          simp only [Rec.on, n3, Out.on, wsOn]]
        exact this
end
end Go.Nx
