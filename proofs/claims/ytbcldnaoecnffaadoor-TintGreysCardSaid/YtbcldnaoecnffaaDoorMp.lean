/-
  EACH STEP IS LOCAL.
-/
import Derived.Test.YtbcldnaoecnffaaDoorMo
set_option linter.unusedVariables false
namespace Go.Mx

section
variable {Γ : Env} {d : Option Nat} {tm : List V} {own : List (Nat × Blk)} {K : St → Prop}

theorem setOwn_none {k : Nat} {b : Blk} {own : List (Nat × Blk)} (h : look k own = none) : setOwn k b own = (k, b) :: own := by simp [setOwn, h]
theorem setOwn_some {k : Nat} {b c : Blk} {own : List (Nat × Blk)} (h : look k own = some c) : setOwn k b own = upd k b own := by simp [setOwn, h]

/-- of one operand -/
theorem local1 {op : MK} {x : Opd} {F : V → (V → Prop) → Prop} (hx : x ∈ opds op)
    (hdef : ∀ tm own (K : St → Prop), stepK Γ d ⟨tm, own⟩ op K ↔ evK Γ tm x fun v => F v fun r => putK ⟨tm, own⟩ d r K)
    (hF : ∀ v (K : V → Prop), F v K → ∃ r, K r ∧ ∀ K' : V → Prop, K' r → F v K') (h : stepK Γ d ⟨tm, own⟩ op K) : ∃ u, K (u.on d ⟨tm, own⟩) ∧ Local Γ d op tm own u := by
  obtain ⟨v, hv, h⟩ := evK_elim ((hdef _ _ _).1 h)
  obtain ⟨r, hr, h2⟩ := hF v _ h
  exact local_val hr fun tm' own' ha K' hK' => (hdef _ _ _).2 (ev_alike ha hx hv (h2 _ hK'))
/-- of two -/
theorem local2 {op : MK} {x y : Opd} {F : V → V → (V → Prop) → Prop} (hx : x ∈ opds op) (hy : y ∈ opds op)
    (hdef : ∀ tm own (K : St → Prop), stepK Γ d ⟨tm, own⟩ op K ↔ evK Γ tm x fun v => evK Γ tm y fun u => F v u fun r => putK ⟨tm, own⟩ d r K)
    (hF : ∀ v u (K : V → Prop), F v u K → ∃ r, K r ∧ ∀ K' : V → Prop, K' r → F v u K') (h : stepK Γ d ⟨tm, own⟩ op K) : ∃ u, K (u.on d ⟨tm, own⟩) ∧ Local Γ d op tm own u := by
  obtain ⟨v, hv, h⟩ := evK_elim ((hdef _ _ _).1 h)
  obtain ⟨z, hz, h⟩ := evK_elim h
  obtain ⟨r, hr, h2⟩ := hF v z _ h
  exact local_val hr fun tm' own' ha K' hK' => (hdef _ _ _).2 (ev_alike ha hx hv (ev_alike ha hy hz (h2 _ hK')))

theorem loc_mv {x : Opd} (h : stepK Γ d ⟨tm, own⟩ (.mv x) K) : ∃ u, K (u.on d ⟨tm, own⟩) ∧ Local Γ d (.mv x) tm own u :=
  local1 (x := x) (F := fun v K => K v) (by simp [opds]) (fun _ _ _ => Iff.rfl) (fun v K h => ⟨v, h, fun K' h' => h'⟩) h

theorem loc_pick {c a b : Opd} (h : stepK Γ d ⟨tm, own⟩ (.pick c a b) K) : ∃ u, K (u.on d ⟨tm, own⟩) ∧ Local Γ d (.pick c a b) tm own u := by
  obtain ⟨v, hv, h⟩ := evK_elim h
  split at h
  · rcases brK_elim h with ⟨e, h1⟩ | ⟨e, h1⟩
    · subst e
      obtain ⟨z, hz, h2⟩ := evK_elim h1
      exact local_val h2 fun tm' own' ha K' hK' => ev_alike (op := .pick c a b) ha (by simp [opds]) hv (ev_alike ha (by simp [opds]) hz hK')
    · subst e
      obtain ⟨z, hz, h2⟩ := evK_elim h1
      exact local_val h2 fun tm' own' ha K' hK' => ev_alike (op := .pick c a b) ha (by simp [opds]) hv (ev_alike ha (by simp [opds]) hz hK')
  · exact h.elim

theorem loc_alloc {k : Nat} {z : List T} (h : stepK Γ d ⟨tm, own⟩ (.alloc k z) K) : ∃ u, K (u.on d ⟨tm, own⟩) ∧ Local Γ d (.alloc k z) tm own u := by
  obtain ⟨hf, h1⟩ := freshK_elim h
  have h2 := tagK_elim h1
  rw [← setOwn_none hf] at h2
  refine local_own (mem_newKey (by simp [newKey])) rfl h2 fun tm' own' ha K' hK' => ?_
  have hf' : look k own' = none := by rw [ha.owns k (mem_newKey (by simp [newKey]))]; exact hf
  rw [setOwn_none hf'] at hK'
  exact freshK_mk hf' (tagK_mk hK')
theorem loc_alloca {k : Nat} {z : List T} (h : stepK Γ d ⟨tm, own⟩ (.alloca k z) K) : ∃ u, K (u.on d ⟨tm, own⟩) ∧ Local Γ d (.alloca k z) tm own u := by
  obtain ⟨hf, h2⟩ := freshK_elim h
  rw [← setOwn_none hf] at h2
  refine local_own (mem_newKey (by simp [newKey])) rfl h2 fun tm' own' ha K' hK' => ?_
  have hf' : look k own' = none := by rw [ha.owns k (mem_newKey (by simp [newKey]))]; exact hf
  rw [setOwn_none hf'] at hK'
  exact freshK_mk hf' hK'
theorem cellsK_mk {v : V} {K : List V → Prop} (h1 : ∀ x, v = .t x → (∀ y ∈ x.cells, y.one = true) ∧ (x.one = true ∨ ∃ cs, x = .agg cs)) (h2 : v ≠ .dead) (hK : K v.cells) : cellsK v K := by
  cases v with
  | t x =>
    obtain ⟨h3, h4⟩ := h1 x rfl
    cases x <;> first
      | exact hK
      | exact onesK_mk h3 (tagK_mk hK)
      | (rcases h4 with h4 | ⟨_, h4⟩ <;> simp [T.one] at h4)
  | dead => exact absurd rfl h2
  | ptr | eptr | vptr | sl | mp | fn => exact hK
theorem loc_box {k : Nat} {x : Opd} (h : stepK Γ d ⟨tm, own⟩ (.box k x) K) : ∃ u, K (u.on d ⟨tm, own⟩) ∧ Local Γ d (.box k x) tm own u := by
  obtain ⟨v, hv, h⟩ := evK_elim h
  obtain ⟨h1, h2, h⟩ := cellsK_elim h
  obtain ⟨hf, h⟩ := freshK_elim h
  rw [← setOwn_none hf] at h
  refine local_own (mem_newKey (by simp [newKey])) rfl h fun tm' own' ha K' hK' => ?_
  have hf' : look k own' = none := by rw [ha.owns k (mem_newKey (by simp [newKey]))]; exact hf
  rw [setOwn_none hf'] at hK'
  exact ev_alike (op := .box k x) ha (by simp [opds]) hv (cellsK_mk h1 h2 (freshK_mk hf' hK'))
theorem loc_boxa {k : Nat} {x : Opd} (h : stepK Γ d ⟨tm, own⟩ (.boxa k x) K) : ∃ u, K (u.on d ⟨tm, own⟩) ∧ Local Γ d (.boxa k x) tm own u := by
  obtain ⟨v, hv, h⟩ := evK_elim h
  obtain ⟨l, e, h⟩ := aggK_elim h
  subst e
  obtain ⟨hf, h⟩ := freshK_elim h
  obtain ⟨h1, h⟩ := reqK_elim h
  rw [← setOwn_none hf] at h
  refine local_own (mem_newKey (by simp [newKey])) rfl h fun tm' own' ha K' hK' => ?_
  have hf' : look k own' = none := by rw [ha.owns k (mem_newKey (by simp [newKey]))]; exact hf
  rw [setOwn_none hf'] at hK'
  refine ev_alike (op := .boxa k x) ha (by simp [opds]) hv ?_
  exact freshK_mk hf' (reqK_of h1 hK')

theorem loc_ld {n : Option Nat} {x : Opd} (h : stepK Γ d ⟨tm, own⟩ (.ld n x) K) : ∃ u, K (u.on d ⟨tm, own⟩) ∧ Local Γ d (.ld n x) tm own u := by
  obtain ⟨v, hv, h⟩ := evK_elim h
  cases v with
  | ptr k off =>
    obtain ⟨b, hb, h⟩ := lkupK_elim h
    cases b with
    | cells cs =>
      obtain ⟨r, hr, h2⟩ := rdK_local h
      refine local_val hr fun tm' own' ha K' hK' => ev_alike (op := .ld n x) ha (by simp [opds]) hv ?_
      exact lkupK_mk (by rw [key_alike (op := .ld n x) ha rfl (by simp [opds]) hv (k := k) (by simp [vKeys])]; exact hb) (h2 _ hK')
    | lst sz ts wr =>
      obtain ⟨hw, hh⟩ := natK_elim h
      subst hw
      obtain ⟨e1, e2, m, e3, h3, h4, h5⟩ := ldaK_elim hh
      subst e1 e2 e3
      refine local_val h5 fun tm' own' ha K' hK' => ev_alike (op := .ld (some m) x) ha (by simp [opds]) hv ?_
      refine lkupK_mk (by rw [key_alike (op := .ld (some m) x) ha rfl (by simp [opds]) hv (k := k) (by simp [vKeys])]; exact hb) ?_
      exact natK_mk rfl (reqK_of ⟨h3, h4⟩ hK')
  | eptr k i j =>
    obtain ⟨b, hb, h⟩ := lkupK_elim h
    cases b with
    | cells cs => exact h.elim
    | lst sz ts wr =>
      obtain ⟨hw, hh⟩ := natK_elim h
      subst hw
      obtain ⟨h0, y, hy, h⟩ := nthK_elim hh
      obtain ⟨g1, g2, h⟩ := cellsTK_elim h
      obtain ⟨r, hr, h2⟩ := rdTK_local h
      refine local_val hr fun tm' own' ha K' hK' => ev_alike (op := .ld n x) ha (by simp [opds]) hv ?_
      refine lkupK_mk (by rw [key_alike (op := .ld n x) ha rfl (by simp [opds]) hv (k := k) (by simp [vKeys])]; exact hb) ?_
      exact natK_mk rfl (nthK_of y h0 hy (cellsTK_mk g1 g2 (h2 _ hK')))
  | vptr cs off =>
    obtain ⟨r, hr, h2⟩ := rdTK_local h
    exact local_val hr fun tm' own' ha K' hK' => ev_alike (op := .ld n x) ha (by simp [opds]) hv (h2 _ hK')
  | t | sl | mp | fn | dead => exact h.elim

theorem loc_st {n : Nat} {x y : Opd} (h : stepK Γ d ⟨tm, own⟩ (.st n x y) K) : ∃ u, K (u.on d ⟨tm, own⟩) ∧ Local Γ d (.st n x y) tm own u := by
  obtain ⟨v, hv, h⟩ := evK_elim h
  cases v with
  | ptr k off =>
    obtain ⟨b, hb, h⟩ := lkupK_elim h
    have hkey := mem_opKeys (op := .st n x y) rfl (by simp [opds]) hv (k := k) (by simp [vKeys])
    cases b with
    | cells cs =>
      obtain ⟨z, hz, h⟩ := evK_elim h
      obtain ⟨h1, h2, h⟩ := cellsK_elim h
      obtain ⟨h3, h⟩ := lenK_elim h
      obtain ⟨h4, h5⟩ := putNK_elim h
      have h6 := updK_elim h5
      rw [← setOwn_some hb] at h6
      refine local_own hkey rfl h6 fun tm' own' ha K' hK' => ev_alike (op := .st n x y) ha (by simp [opds]) hv ?_
      have hb' : look k own' = some (.cells cs) := by rw [ha.owns k hkey]; exact hb
      rw [setOwn_some hb'] at hK'
      refine lkupK_mk hb' (ev_alike ha (by simp [opds]) hz (cellsK_mk h1 h2 (lenK_mk h3 ?_)))
      rcases h4 with h4 | h4
      · rw [h4] at hK' ⊢
        rw [putN_nil] at hK'
        cases cs <;> cases off <;> exact updK_mk hb' hK'
      · exact putNK_mk h4 (updK_mk hb' hK')
    | lst sz ts wr =>
      obtain ⟨hw, hh⟩ := natK_elim h
      subst hw
      obtain ⟨z, hz, h⟩ := evK_elim hh
      obtain ⟨e1, e2, l, e3, h1, h2, h3, h4⟩ := staK_elim h
      subst e1 e2 e3
      have h6 := updK_elim h4
      rw [← setOwn_some hb] at h6
      refine local_own hkey rfl h6 fun tm' own' ha K' hK' => ev_alike (op := .st n x y) ha (by simp [opds]) hv ?_
      have hb' : look k own' = some (.lst 1 ts true) := by rw [ha.owns k hkey]; exact hb
      rw [setOwn_some hb'] at hK'
      exact lkupK_mk hb' (natK_mk rfl (ev_alike ha (by simp [opds]) hz (reqK_of ⟨h1, h2, h3⟩ (updK_mk hb' hK'))))
  | eptr k i j =>
    obtain ⟨b, hb, h⟩ := lkupK_elim h
    have hkey := mem_opKeys (op := .st n x y) rfl (by simp [opds]) hv (k := k) (by simp [vKeys])
    cases b with
    | cells cs => exact h.elim
    | lst sz ts wr =>
      obtain ⟨hw, hh⟩ := natK_elim h
      subst hw
      obtain ⟨z, hz, h⟩ := evK_elim hh
      obtain ⟨e1, e2, e3, l, e4, h1, h2, h4⟩ := steK_elim h
      subst e1 e2 e3 e4
      have h6 := updK_elim h4
      rw [← setOwn_some hb] at h6
      refine local_own hkey rfl h6 fun tm' own' ha K' hK' => ev_alike (op := .st 1 x y) ha (by simp [opds]) hv ?_
      have hb' : look k own' = some (.lst 1 ts true) := by rw [ha.owns k hkey]; exact hb
      rw [setOwn_some hb'] at hK'
      exact lkupK_mk hb' (natK_mk rfl (ev_alike ha (by simp [opds]) hz (oneK_mk h1 (reqK_of h2 (updK_mk hb' hK')))))
  | t | sl | mp | fn | dead | vptr => exact h.elim

theorem loc_nilc {x : Opd} (h : stepK Γ d ⟨tm, own⟩ (.nilc x) K) : ∃ u, K (u.on d ⟨tm, own⟩) ∧ Local Γ d (.nilc x) tm own u := by
  obtain ⟨v, hv, h⟩ := evK_elim h
  split at h <;> first
    | exact local_val h fun tm' own' ha K' hK' => ev_alike (op := .nilc x) ha (by simp [opds]) hv hK'
    | exact h.elim
theorem loc_fa {o : Nat} {x : Opd} (h : stepK Γ d ⟨tm, own⟩ (.fa o x) K) : ∃ u, K (u.on d ⟨tm, own⟩) ∧ Local Γ d (.fa o x) tm own u := by
  refine local1 (x := x) (F := fun v K => match v with
      | .ptr k o' => K (.ptr k (Nat.add o' o))
      | .eptr k i j => K (.eptr k i (Nat.add j o))
      | .vptr l i => K (.vptr l (Nat.add i o))
      | _ => False) (by simp [opds]) (fun tm own K => Iff.rfl) (fun v K h => ?_) h
  split at h <;> first | exact ⟨_, h, fun K' h' => h'⟩ | exact h.elim
theorem loc_fld {o : Nat} {n : Option Nat} {x : Opd} (h : stepK Γ d ⟨tm, own⟩ (.fld o n x) K) : ∃ u, K (u.on d ⟨tm, own⟩) ∧ Local Γ d (.fld o n x) tm own u := by
  refine local1 (x := x) (F := fun v K => match v with
      | .t (.agg cs) => rdTK cs o n K
      | _ => False) (by simp [opds]) (fun tm own K => Iff.rfl) (fun v K h => ?_) h
  split at h
  · exact rdTK_local h
  · exact h.elim
theorem loc_un {op : UnOp} {x : Opd} (h : stepK Γ d ⟨tm, own⟩ (.un op x) K) : ∃ u, K (u.on d ⟨tm, own⟩) ∧ Local Γ d (.un op x) tm own u := by
  refine local1 (x := x) (F := fun v K => toTK v fun a => ansK (unA op a) fun r => K (.t r)) (by simp [opds]) (fun tm own K => Iff.rfl) (fun v K h => ?_) h
  obtain ⟨a, rfl, h⟩ := toTK_elim h
  obtain ⟨r, h1, h2⟩ := ansK_elim h
  exact ⟨_, h2, fun K' h' => ansK_mk h1 h'⟩
theorem loc_conv {k : IntKind} {x : Opd} (h : stepK Γ d ⟨tm, own⟩ (.conv k x) K) : ∃ u, K (u.on d ⟨tm, own⟩) ∧ Local Γ d (.conv k x) tm own u := by
  refine local1 (x := x) (F := fun v K => match v with
      | .t (.int _ n) => K (.t (.int k (k.wrap n)))
      | _ => False) (by simp [opds]) (fun tm own K => Iff.rfl) (fun v K h => ?_) h
  split at h
  · exact ⟨_, h, fun K' h' => h'⟩
  · exact h.elim
theorem loc_cvs {x : Opd} (h : stepK Γ d ⟨tm, own⟩ (.cvs x) K) : ∃ u, K (u.on d ⟨tm, own⟩) ∧ Local Γ d (.cvs x) tm own u := by
  refine local1 (x := x) (F := fun v K => match v with
      | .t (.str s) => K (.t (.str s))
      | _ => False) (by simp [opds]) (fun tm own K => Iff.rfl) (fun v K h => ?_) h
  split at h
  · exact ⟨_, h, fun K' h' => h'⟩
  · exact h.elim
theorem loc_ext {i : Nat} {x : Opd} (h : stepK Γ d ⟨tm, own⟩ (.ext x i) K) : ∃ u, K (u.on d ⟨tm, own⟩) ∧ Local Γ d (.ext x i) tm own u := by
  refine local1 (x := x) (F := fun v K => match v with
      | .t (.tup l) => getK l i fun y => K (.t y)
      | _ => False) (by simp [opds]) (fun tm own K => Iff.rfl) (fun v K h => ?_) h
  split at h
  · obtain ⟨y, h1, h2⟩ := getK_elim h
    exact ⟨_, h2, fun K' h' => getK_mk h1 h'⟩
  · exact h.elim
theorem loc_lens {x : Opd} (h : stepK Γ d ⟨tm, own⟩ (.lens x) K) : ∃ u, K (u.on d ⟨tm, own⟩) ∧ Local Γ d (.lens x) tm own u := by
  refine local1 (x := x) (F := fun v K => match v with
      | .t (.str s) => K (.t (.int .i64 s.size))
      | _ => False) (by simp [opds]) (fun tm own K => Iff.rfl) (fun v K h => ?_) h
  split at h
  · exact ⟨_, h, fun K' h' => h'⟩
  · exact h.elim
theorem loc_len {x : Opd} (h : stepK Γ d ⟨tm, own⟩ (.len x) K) : ∃ u, K (u.on d ⟨tm, own⟩) ∧ Local Γ d (.len x) tm own u := by
  refine local1 (x := x) (F := fun v K => match v with
      | .t x => listK x fun _ xs => K (.t (.int .i64 xs.length))
      | _ => False) (by simp [opds]) (fun tm own K => Iff.rfl) (fun v K h => ?_) h
  split at h
  · rcases listK_elim h with ⟨sz, xs, e, h2⟩ | ⟨e, h2⟩ <;> subst e <;> exact ⟨_, h2, fun K' h' => h'⟩
  · exact h.elim
theorem loc_ixs {sz : Nat} {x y : Opd} (h : stepK Γ d ⟨tm, own⟩ (.ixs sz x y) K) : ∃ u, K (u.on d ⟨tm, own⟩) ∧ Local Γ d (.ixs sz x y) tm own u := by
  refine local2 (x := x) (y := y) (F := fun v w K => match w with
      | .t (.int _ z) => match v with
        | .t x => listK x fun sz' xs => nthK xs z fun y => natK (Nat.beq sz' sz) (cellsTK y fun l => K (.vptr l 0))
        | _ => False
      | _ => False) (by simp [opds]) (by simp [opds]) (fun tm own K => Iff.rfl) (fun v w K h => ?_) h
  split at h
  · split at h
    · have main : ∀ {a : Nat} {xs : List T} {z : Int}, (nthK xs z fun y => natK (Nat.beq a sz) (cellsTK y fun l => K (.vptr l 0))) →
          ∃ r, K r ∧ ∀ K' : V → Prop, K' r → nthK xs z fun y => natK (Nat.beq a sz) (cellsTK y fun l => K' (.vptr l 0)) := by
        intro a xs z h
        obtain ⟨h0, y, hy, h⟩ := nthK_elim h
        obtain ⟨h1, h⟩ := natK_elim h
        obtain ⟨h2, h3, h⟩ := cellsTK_elim h
        exact ⟨_, h, fun K' h' => nthK_of y h0 hy (natK_mk h1 (cellsTK_mk h2 h3 h'))⟩
      rcases listK_elim h with ⟨a, xs, e, h2⟩ | ⟨e, h2⟩ <;> subst e
      · exact main h2
      · exact main h2
    · exact h.elim
  · exact h.elim
theorem loc_ixstr {x y : Opd} (h : stepK Γ d ⟨tm, own⟩ (.ixstr x y) K) : ∃ u, K (u.on d ⟨tm, own⟩) ∧ Local Γ d (.ixstr x y) tm own u := by
  refine local2 (x := x) (y := y) (F := fun v w K => match w with
      | .t (.int _ z) => match v with
        | .t (.str s) => nthK s.data.toList z fun y => K (.t (.int .u8 y.toNat))
        | _ => False
      | _ => False) (by simp [opds]) (by simp [opds]) (fun tm own K => Iff.rfl) (fun v w K h => ?_) h
  split at h
  · split at h
    · obtain ⟨h0, y, hy, h⟩ := nthK_elim h
      exact ⟨_, h, fun K' h' => nthK_of y h0 hy h'⟩
    · exact h.elim
  · exact h.elim
theorem loc_bin {op : BinOp} {x y : Opd} (h : stepK Γ d ⟨tm, own⟩ (.bin op x y) K) : ∃ u, K (u.on d ⟨tm, own⟩) ∧ Local Γ d (.bin op x y) tm own u := by
  refine local2 (x := x) (y := y) (F := fun v w K => toTK v fun a => toTK w fun b => ansK (binA op a b) fun r => K (.t r)) (by simp [opds]) (by simp [opds]) (fun tm own K => Iff.rfl) (fun v w K h => ?_) h
  obtain ⟨a, e1, h⟩ := toTK_elim h
  obtain ⟨b, e2, h⟩ := toTK_elim h
  subst e1 e2
  obtain ⟨r, h1, h2⟩ := ansK_elim h
  exact ⟨_, h2, fun K' h' => ansK_mk h1 h'⟩
theorem loc_binb {op : BinOp} {x y : Opd} (h : stepK Γ d ⟨tm, own⟩ (.binb op x y) K) : ∃ u, K (u.on d ⟨tm, own⟩) ∧ Local Γ d (.binb op x y) tm own u := by
  refine local2 (x := x) (y := y) (F := fun v w K => toTK v fun a => toTK w fun b => ansK (binbA op a b) fun r => K (.t r)) (by simp [opds]) (by simp [opds]) (fun tm own K => Iff.rfl) (fun v w K h => ?_) h
  obtain ⟨a, e1, h⟩ := toTK_elim h
  obtain ⟨b, e2, h⟩ := toTK_elim h
  subst e1 e2
  obtain ⟨r, h1, h2⟩ := ansK_elim h
  exact ⟨_, h2, fun K' h' => ansK_mk h1 h'⟩
theorem loc_eqa {neg : Bool} {sh : List Nat} {x y : Opd} (h : stepK Γ d ⟨tm, own⟩ (.eqa neg sh x y) K) : ∃ u, K (u.on d ⟨tm, own⟩) ∧ Local Γ d (.eqa neg sh x y) tm own u := by
  obtain ⟨v, hv, h⟩ := evK_elim h
  obtain ⟨u, hu, h⟩ := evK_elim h
  split at h
  · split at h
    · rename_i e
      refine local_val h fun tm' own' ha K' hK' => ev_alike (op := .eqa neg sh x y) ha (by simp [opds]) hv (ev_alike ha (by simp [opds]) hu ?_)
      simp only [e]; exact hK'
    · exact h.elim
  · exact h.elim
theorem loc_mx {x y : Opd} (h : stepK Γ d ⟨tm, own⟩ (.mx x y) K) : ∃ u, K (u.on d ⟨tm, own⟩) ∧ Local Γ d (.mx x y) tm own u := by
  refine local2 (x := x) (y := y) (F := fun v w K => match v, w with
      | .t (.int k a), .t (.int _ b) => K (.t (.int k (maxI a b)))
      | _, _ => False) (by simp [opds]) (by simp [opds]) (fun tm own K => Iff.rfl) (fun v w K h => ?_) h
  split at h
  · exact ⟨_, h, fun K' h' => h'⟩
  · exact h.elim
theorem loc_mn {x y : Opd} (h : stepK Γ d ⟨tm, own⟩ (.mn x y) K) : ∃ u, K (u.on d ⟨tm, own⟩) ∧ Local Γ d (.mn x y) tm own u := by
  refine local2 (x := x) (y := y) (F := fun v w K => match v, w with
      | .t (.int k a), .t (.int _ b) => K (.t (.int k (minI a b)))
      | _, _ => False) (by simp [opds]) (by simp [opds]) (fun tm own K => Iff.rfl) (fun v w K h => ?_) h
  split at h
  · exact ⟨_, h, fun K' h' => h'⟩
  · exact h.elim
theorem loc_ixa {len sz : Nat} {x y : Opd} (h : stepK Γ d ⟨tm, own⟩ (.ixa len sz x y) K) : ∃ u, K (u.on d ⟨tm, own⟩) ∧ Local Γ d (.ixa len sz x y) tm own u := by
  obtain ⟨v, hv, h⟩ := evK_elim h
  obtain ⟨u, hu, h⟩ := evK_elim h
  split at h
  · rename_i z _
    cases v with
    | ptr k o =>
      obtain ⟨b, hb, h⟩ := lkupK_elim h
      obtain ⟨e1, ⟨ts, wr, e2⟩, h1, h2, h3⟩ := ixaK_elim h
      subst e1 e2
      refine local_val h3 fun tm' own' ha K' hK' => ev_alike (op := .ixa len sz x y) ha (by simp [opds]) hv (ev_alike ha (by simp [opds]) hu ?_)
      refine lkupK_mk (by rw [key_alike (op := .ixa len sz x y) ha rfl (by simp [opds]) hv (k := k) (by simp [vKeys])]; exact hb) ?_
      exact natK_mk (Nat.beq_refl sz) (reqK_of ⟨h1, h2⟩ hK')
    | vptr cs o =>
      obtain ⟨e1, h1, h2, q, h3, h4⟩ := ixvK_elim h
      subst e1
      refine local_val h4 fun tm' own' ha K' hK' => ev_alike (op := .ixa len 1 x y) ha (by simp [opds]) hv (ev_alike ha (by simp [opds]) hu ?_)
      exact nthK_of q h1 (by rw [List.getElem?_drop]; exact h3) (reqK_of h2 hK')
    | t | sl | mp | fn | dead | eptr => exact h.elim
  · exact h.elim

theorem fill_local {op : MK} : ∀ (ps : List (Nat × Nat × Opd)) (cs : List T) (K : List T → Prop), (∀ p ∈ ps, p.2.2 ∈ opds op) → fillK Γ tm ps cs K →
    ∃ r, K r ∧ ∀ tm' own', Alike op tm tm' own own' → ∀ K' : List T → Prop, K' r → fillK Γ tm' ps cs K' := by
  intro ps
  induction ps with
  | nil => intro cs K _ h; exact ⟨cs, h, fun tm' own' _ K' h' => h'⟩
  | cons p ps ih =>
    intro cs K hm h
    obtain ⟨o, n, x⟩ := p
    obtain ⟨v, hv, h⟩ := evK_elim h
    obtain ⟨y, e, h⟩ := toTK_elim h
    subst e
    obtain ⟨h1, h2, h⟩ := cellsTK_elim h
    obtain ⟨h3, h⟩ := lenK_elim h
    obtain ⟨h4, h⟩ := putNK_elim h
    obtain ⟨r, hr, h5⟩ := ih _ _ (fun p hp => hm p (by simp [hp])) h
    refine ⟨r, hr, fun tm' own' ha K' h' => ?_⟩
    refine ev_alike ha (hm (o, n, x) (by simp)) hv (cellsTK_mk h1 h2 (lenK_mk h3 ?_))
    have h6 := h5 tm' own' ha K' h'
    rcases h4 with h4 | h4
    · rw [h4] at h6 ⊢
      rw [putN_nil] at h6
      cases cs <;> cases o <;> exact h6
    · exact putNK_mk h4 h6
theorem loc_bld {z : List T} {ps : List (Nat × Nat × Opd)} (h : stepK Γ d ⟨tm, own⟩ (.bld z ps) K) : ∃ u, K (u.on d ⟨tm, own⟩) ∧ Local Γ d (.bld z ps) tm own u := by
  obtain ⟨r, hr, h1⟩ := fill_local (own := own) (op := .bld z ps) ps z _ (fun p hp => by simp only [opds]; exact List.mem_map.2 ⟨p, hp, rfl⟩) h
  exact local_val hr fun tm' own' ha K' hK' => h1 tm' own' ha _ hK'
theorem args_local {op : MK} : ∀ (xs : List Opd) (K : List T → Prop), (∀ x ∈ xs, x ∈ opds op) → argsK Γ tm xs K →
    ∃ r, K r ∧ ∀ tm' own', Alike op tm tm' own own' → ∀ K' : List T → Prop, K' r → argsK Γ tm' xs K' := by
  intro xs
  induction xs with
  | nil => intro K _ h; exact ⟨[], h, fun tm' own' _ K' h' => h'⟩
  | cons x xs ih =>
    intro K hm h
    obtain ⟨v, hv, h⟩ := evK_elim h
    obtain ⟨y, e, h⟩ := toTK_elim h
    subst e
    obtain ⟨r, hr, h5⟩ := ih _ (fun p hp => hm p (by simp [hp])) h
    exact ⟨_, hr, fun tm' own' ha K' h' => ev_alike ha (hm x (by simp)) hv (h5 tm' own' ha (fun l => K' (y :: l)) h')⟩
theorem loc_call {f : Opd} {as : List Opd} (h : stepK Γ d ⟨tm, own⟩ (.call f as) K) : ∃ u, K (u.on d ⟨tm, own⟩) ∧ Local Γ d (.call f as) tm own u := by
  obtain ⟨v, hv, h⟩ := evK_elim h
  split at h
  · obtain ⟨vs, h1, h2⟩ := args_local (own := own) (op := .call f as) as _ (fun x hx => by simp [opds, hx]) h
    obtain ⟨r, h3, h4⟩ := ansK_elim h1
    exact local_val h4 fun tm' own' ha K' hK' => ev_alike (op := .call f as) ha (by simp [opds]) hv (h2 tm' own' ha _ (ansK_mk h3 hK'))
  · exact h.elim

theorem els_local {op : MK} {sz : Nat} : ∀ (xs : List Opd) (K : List T → Prop), (∀ x ∈ xs, x ∈ opds op) → elsK Γ tm sz xs K →
    ∃ r, K r ∧ ∀ tm' own', Alike op tm tm' own own' → ∀ K' : List T → Prop, K' r → elsK Γ tm' sz xs K' := by
  intro xs
  induction xs with
  | nil => intro K _ h; exact ⟨[], h, fun tm' own' _ K' h' => h'⟩
  | cons x xs ih =>
    intro K hm h
    obtain ⟨v, hv, h⟩ := evK_elim h
    obtain ⟨y, e, h⟩ := toTK_elim h
    subst e
    obtain ⟨h1, h2, h⟩ := cellsTK_elim h
    obtain ⟨h3, h⟩ := lenK_elim h
    obtain ⟨r, hr, h5⟩ := ih _ (fun p hp => hm p (by simp [hp])) h
    exact ⟨_, hr, fun tm' own' ha K' h' => ev_alike ha (hm x (by simp)) hv (cellsTK_mk h1 h2 (lenK_mk h3 (h5 tm' own' ha (fun l => K' (y :: l)) h')))⟩
theorem loc_bslt {sz : Nat} {xs : List Opd} (h : stepK Γ d ⟨tm, own⟩ (.bslt sz xs) K) : ∃ u, K (u.on d ⟨tm, own⟩) ∧ Local Γ d (.bslt sz xs) tm own u := by
  obtain ⟨r, hr, h1⟩ := els_local (own := own) (op := .bslt sz xs) xs _ (fun x hx => by simpa [opds] using hx) h
  exact local_val hr fun tm' own' ha K' hK' => h1 tm' own' ha _ hK'
theorem bnd_local {op : MK} {x : Option Opd} {n : Nat} {K : Int → Prop} (hm : ∀ y ∈ x.toList, y ∈ opds op) (h : bndK Γ tm x n K) :
    ∃ r, K r ∧ ∀ tm' own', Alike op tm tm' own own' → ∀ K' : Int → Prop, K' r → bndK Γ tm' x n K' := by
  rcases bndK_elim h with ⟨e, h1⟩ | ⟨y, k, z, e, h1, h2⟩
  · subst e; exact ⟨_, h1, fun tm' own' _ K' h' => h'⟩
  · subst e; exact ⟨z, h2, fun tm' own' ha K' h' => ev_alike ha (hm y (by simp)) h1 h'⟩
theorem loc_slstr {x : Opd} {lo hi : Option Opd} (h : stepK Γ d ⟨tm, own⟩ (.slstr x lo hi) K) : ∃ u, K (u.on d ⟨tm, own⟩) ∧ Local Γ d (.slstr x lo hi) tm own u := by
  obtain ⟨v, hv, h⟩ := evK_elim h
  split at h
  · obtain ⟨l, h, hl⟩ := bnd_local (own := own) (op := .slstr x lo hi) (fun y hy => by simp [opds, Option.mem_toList.1 hy]) h
    obtain ⟨m, h, hm⟩ := bnd_local (own := own) (op := .slstr x lo hi) (fun y hy => by simp [opds, Option.mem_toList.1 hy]) h
    obtain ⟨g, h⟩ := reqK_elim h
    exact local_val h fun tm' own' ha K' hK' => ev_alike (op := .slstr x lo hi) ha (by simp [opds]) hv (hl tm' own' ha _ (hm tm' own' ha _ (reqK_of g hK')))
  · exact h.elim
theorem loc_sll {sz : Nat} {x : Opd} {lo hi : Option Opd} (h : stepK Γ d ⟨tm, own⟩ (.sll sz x lo hi) K) : ∃ u, K (u.on d ⟨tm, own⟩) ∧ Local Γ d (.sll sz x lo hi) tm own u := by
  obtain ⟨v, hv, h⟩ := evK_elim h
  obtain ⟨y, e, g⟩ := toTK_elim h
  clear h
  subst e
  rcases listK_elim g with ⟨sz', xs, e, h⟩ | ⟨e, h⟩ <;> clear g <;> subst e
  · obtain ⟨l, h, hl⟩ := bnd_local (own := own) (op := .sll sz x lo hi) (fun y hy => by simp [opds, Option.mem_toList.1 hy]) h
    obtain ⟨m, h, hm⟩ := bnd_local (own := own) (op := .sll sz x lo hi) (fun y hy => by simp [opds, Option.mem_toList.1 hy]) h
    obtain ⟨g, h⟩ := reqK_elim h
    refine local_val h fun tm' own' ha K' hK' => ev_alike (op := .sll sz x lo hi) ha (by simp [opds]) hv ?_
    exact hl tm' own' ha (fun l => bndK Γ tm' hi xs.length fun h => reqK (0 ≤ l ∧ l ≤ h ∧ h ≤ (xs.length : Nat) ∧ (xs = [] ∨ sz' = sz)) (putK ⟨tm', own'⟩ d (.t (.list sz ((xs.drop l.toNat).take (h.toNat - l.toNat)))) K')) (hm tm' own' ha _ (reqK_of g hK'))
  · obtain ⟨l, h, hl⟩ := bnd_local (own := own) (op := .sll sz x lo hi) (fun y hy => by simp [opds, Option.mem_toList.1 hy]) h
    obtain ⟨m, h, hm⟩ := bnd_local (own := own) (op := .sll sz x lo hi) (fun y hy => by simp [opds, Option.mem_toList.1 hy]) h
    obtain ⟨g, h⟩ := reqK_elim h
    refine local_val h fun tm' own' ha K' hK' => ev_alike (op := .sll sz x lo hi) ha (by simp [opds]) hv ?_
    exact hl tm' own' ha (fun l => bndK Γ tm' hi ([] : List T).length fun h => reqK (0 ≤ l ∧ l ≤ h ∧ h ≤ (([] : List T).length : Nat) ∧ (([] : List T) = [] ∨ 0 = sz)) (putK ⟨tm', own'⟩ d (.t (.list sz ((([] : List T).drop l.toNat).take (h.toNat - l.toNat)))) K')) (hm tm' own' ha _ (reqK_of g hK'))
theorem loc_ixv {len : Nat} {x y : Opd} (h : stepK Γ d ⟨tm, own⟩ (.ixv len x y) K) : ∃ u, K (u.on d ⟨tm, own⟩) ∧ Local Γ d (.ixv len x y) tm own u := by
  refine local2 (x := x) (y := y) (F := fun v w K => match w with
      | .t (.int _ z) => aggK v fun cs => nthK cs z fun y => reqK (z < len) (K (.t y))
      | _ => False) (by simp [opds]) (by simp [opds]) (fun tm own K => Iff.rfl) (fun v w K h => ?_) h
  split at h
  · obtain ⟨l, e, h⟩ := aggK_elim h
    subst e
    obtain ⟨h0, q, h1, h2⟩ := nthK_elim h
    obtain ⟨h3, h4⟩ := reqK_elim h2
    exact ⟨_, h4, fun K' h' => nthK_of q h0 h1 (reqK_of h3 h')⟩
  · exact h.elim

/-- EVERY STEP IS LOCAL. -/
theorem step_local {op : MK} (h : stepK Γ d ⟨tm, own⟩ op K) : ∃ u, K (u.on d ⟨tm, own⟩) ∧ Local Γ d op tm own u := by
  cases op with
  | mv => exact loc_mv h
  | pick => exact loc_pick h
  | alloc => exact loc_alloc h
  | alloca => exact loc_alloca h
  | box => exact loc_box h
  | boxa => exact loc_boxa h
  | ld => exact loc_ld h
  | st => exact loc_st h
  | nilc => exact loc_nilc h
  | fa => exact loc_fa h
  | fld => exact loc_fld h
  | ixa => exact loc_ixa h
  | ixs => exact loc_ixs h
  | ixstr => exact loc_ixstr h
  | bin => exact loc_bin h
  | binb => exact loc_binb h
  | eqa => exact loc_eqa h
  | un => exact loc_un h
  | conv => exact loc_conv h
  | cvs => exact loc_cvs h
  | bld => exact loc_bld h
  | bslt => exact loc_bslt h
  | ext => exact loc_ext h
  | lens => exact loc_lens h
  | len => exact loc_len h
  | mx => exact loc_mx h
  | mn => exact loc_mn h
  | slstr => exact loc_slstr h
  | sll => exact loc_sll h
  | ixv => exact loc_ixv h
  | call => exact loc_call h
end
end Go.Mx
