/-
  A STEP HANGS ON WHAT IT READS ALONE.
-/
import Derived.Test.YtbcldnaoecnffaaDoorMn
set_option linter.unusedVariables false
namespace Go.Mx

def setOwn (k : Nat) (b : Blk) (own : List (Nat × Blk)) : List (Nat × Blk) := match look k own with
  | none => (k, b) :: own
  | some _ => upd k b own
theorem look_setOwn (k : Nat) (b : Blk) (own : List (Nat × Blk)) (j : Nat) : look j (setOwn k b own) = if j = k then some b else look j own := by
  unfold setOwn
  split
  · by_cases e : j = k
    · subst e; simp [look]
    · simp [look, e, Ne.symm e]
  · rename_i c h
    exact look_upd h j
/-- what a step does: a value for its slot, and a block at most -/
structure Out where
  v : V
  u : Option (Nat × Blk)
def Out.own (u : Out) (own : List (Nat × Blk)) : List (Nat × Blk) := match u.u with
  | none => own
  | some p => setOwn p.1 p.2 own
def Out.on (u : Out) (d : Option Nat) (st : St) : St := (⟨st.tm, u.own st.own⟩ : St).put d u.v

/-- the same, as far as op reads -/
structure Alike (op : MK) (tm tm' : List V) (own own' : List (Nat × Blk)) : Prop where
  len : tm'.length = tm.length
  tms : ∀ x ∈ opds op, ∀ i, x = .t i → tm'[i]? = tm[i]?
  owns : ∀ k ∈ opKeys tm op, look k own' = look k own

/-- WHAT A STEP DOES, and that it does so wherever what it reads is the same. -/
def Local (Γ : Env) (d : Option Nat) (op : MK) (tm : List V) (own : List (Nat × Blk)) (u : Out) : Prop :=
  (∀ i, d = some i → i < tm.length) ∧ (∀ p, u.u = some p → p.1 ∈ opKeys tm op ∧ wrM op = true) ∧
  ∀ tm' own', Alike op tm tm' own own' → ∀ K : St → Prop, K (u.on d ⟨tm', own'⟩) → stepK Γ d ⟨tm', own'⟩ op K

section
variable {Γ : Env} {d : Option Nat} {tm tm' : List V} {own own' : List (Nat × Blk)} {op : MK}

theorem evF_alike (h : Alike op tm tm' own own') {x : Opd} (hx : x ∈ opds op) : evF Γ tm' x = evF Γ tm x := by
  cases x with
  | t i => exact h.tms _ hx i rfl
  | k x => rfl
  | g i => rfl
theorem ev_alike (h : Alike op tm tm' own own') {x : Opd} (hx : x ∈ opds op) {v : V} (hv : evF Γ tm x = some v) {K : V → Prop} (hK : K v) : evK Γ tm' x K :=
  evK_mk (by rw [evF_alike h hx]; exact hv) hK
theorem mem_xsKeys {x : Opd} {l : List Opd} (hx : x ∈ l) {k : Nat} (hk : k ∈ xKeys tm x) : k ∈ xsKeys tm l := by
  induction l with
  | nil => cases hx
  | cons y r ih =>
    simp only [xsKeys, List.mem_append]
    rcases List.mem_cons.1 hx with rfl | hx
    · exact .inl hk
    · exact .inr (ih hx)
theorem mem_opKeys (hacc : accM op = true) {x : Opd} (hx : x ∈ opds op) {v : V} (hv : evF Γ tm x = some v) {k : Nat} (hk : k ∈ vKeys v) : k ∈ opKeys tm op := by
  unfold opKeys
  rw [hacc]
  refine List.mem_append.2 (.inr (mem_xsKeys hx ?_))
  cases x with
  | t i => simp only [evF] at hv; simp only [xKeys, hv]; exact hk
  | k x => simp [evF] at hv; subst hv; simp [vKeys] at hk
  | g i =>
    simp only [evF] at hv
    cases e : Γ.gl i with
    | none => simp [e] at hv
    | some cs => simp [e] at hv; subst hv; simp [vKeys] at hk
theorem mem_newKey {k : Nat} (hk : k ∈ newKey op) : k ∈ opKeys tm op := by
  unfold opKeys
  split
  · exact List.mem_append.2 (.inl hk)
  · exact hk
theorem key_alike (h : Alike op tm tm' own own') (hacc : accM op = true) {x : Opd} (hx : x ∈ opds op) {v : V} (hv : evF Γ tm x = some v) {k : Nat} (hk : k ∈ vKeys v) : look k own' = look k own := by
  exact h.owns k (mem_opKeys hacc hx hv hk)

/-- a step that gives a value alone -/
theorem local_val {v : V} {K0 : St → Prop} (h0 : putK ⟨tm, own⟩ d v K0)
    (h : ∀ tm' own', Alike op tm tm' own own' → ∀ K : St → Prop, putK ⟨tm', own'⟩ d v K → stepK Γ d ⟨tm', own'⟩ op K) :
    ∃ u, K0 (u.on d ⟨tm, own⟩) ∧ Local Γ d op tm own u := by
  obtain ⟨h1, h2⟩ := putK_elim h0
  refine ⟨⟨v, none⟩, h2, h1, fun p hp => by simp at hp, fun tm' own' ha K hK => h tm' own' ha K (putK_mk ?_ hK)⟩
  intro i hi
  show i < tm'.length
  rw [ha.len]; exact h1 i hi
/-- a step that gives a value and a block -/
theorem local_own {v : V} {k : Nat} {b : Blk} {K0 : St → Prop} (hk : k ∈ opKeys tm op) (hw : wrM op = true) (h0 : putK ⟨tm, setOwn k b own⟩ d v K0)
    (h : ∀ tm' own', Alike op tm tm' own own' → ∀ K : St → Prop, putK ⟨tm', setOwn k b own'⟩ d v K → stepK Γ d ⟨tm', own'⟩ op K) :
    ∃ u, K0 (u.on d ⟨tm, own⟩) ∧ Local Γ d op tm own u := by
  obtain ⟨h1, h2⟩ := putK_elim h0
  refine ⟨⟨v, some (k, b)⟩, h2, h1, fun p hp => by simp at hp; subst hp; exact ⟨hk, hw⟩, fun tm' own' ha K hK => h tm' own' ha K (putK_mk ?_ hK)⟩
  intro i hi
  show i < tm'.length
  rw [ha.len]; exact h1 i hi

theorem toTK_mk {x : T} {K : T → Prop} (h : K x) : toTK (.t x) K := h
theorem ansK_mk {a : Ans} {x : T} {K : T → Prop} (h : a = .yes x ∨ ∃ p, a = .req p x ∧ p) (hK : K x) : ansK a K := by
  rcases h with h | ⟨p, h, hp⟩ <;> subst h
  · exact hK
  · exact reqK_of hp hK
theorem natK_mk {b : Bool} {K : Prop} (h : b = true) (hK : K) : natK b K := by subst h; exact hK
theorem rdTK_local {cs : List T} {off : Nat} {n : Option Nat} {K : V → Prop} (h : rdTK cs off n K) : ∃ v, K v ∧ ∀ K' : V → Prop, K' v → rdTK cs off n K' := by
  rcases rdTK_elim h with ⟨rfl, x, hx, hK⟩ | ⟨m, rfl, hm, hK⟩
  · exact ⟨_, hK, fun K' hK' => getK_mk hx hK'⟩
  · refine ⟨_, hK, fun K' hK' => ?_⟩
    by_cases h0 : m = 0
    · subst h0
      simp only [rdTK] at h ⊢
      simp only [List.take_zero] at hK'
      cases cs <;> cases off <;> simpa [takeK] using hK'
    · exact takeK_mk (by rcases hm with hm | hm <;> omega) hK'
theorem rdK_local {cs : List V} {off : Nat} {n : Option Nat} {K : V → Prop} (h : rdK cs off n K) : ∃ v, K v ∧ ∀ K' : V → Prop, K' v → rdK cs off n K' := by
  rcases rdK_elim h with ⟨rfl, x, hx, hK⟩ | ⟨m, ts, rfl, hm, e, h1, hK⟩
  · exact ⟨_, hK, fun K' hK' => getK_mk hx hK'⟩
  · refine ⟨_, hK, fun K' hK' => ?_⟩
    have fin : untagK ((cs.drop off).take m) fun ts => onesK ts (K' (.t (.agg ts))) := by
      rw [e]; exact untagK_mk (onesK_mk h1 hK')
    by_cases h0 : m = 0
    · subst h0
      simp only [List.take_zero] at fin
      simp only [rdK]
      cases cs <;> cases off <;> simpa [takeK] using fin
    · exact takeK_mk (by rcases hm with hm | hm <;> omega) fin
end
end Go.Mx
