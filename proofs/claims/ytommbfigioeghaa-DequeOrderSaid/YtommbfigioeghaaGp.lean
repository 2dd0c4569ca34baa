/-
  DEQUES: WHAT STAYS SO, WHATEVER THE SCHEDULE: plainly.
-/
import Derived.Test.YtommbfigioeghaaGw
set_option linter.unusedVariables false
set_option linter.unusedSimpArgs false
set_option maxRecDepth 20000
set_option maxHeartbeats 4000000
namespace Go.Nx
open Go.RowKit Go.Proofs

/-- what is at an index -/
def sl (s : List Int) (c i : Int) : Int := at0 s (i % c)
theorem wi_sm {n : Int} (h : -9223372036854775808 ≤ n ∧ n ≤ 9223372036854775807) : wi n = n := wrap_i64 ⟨h.1, h.2⟩
theorem wu_sm {n : Int} (h : 0 ≤ n ∧ n ≤ 18446744073709551615) : wu n = n := wrap_u64 ⟨by omega, by omega⟩
theorem ld_t (t b : Int) (s : List Int) : ldV (t :: b :: s) 0 = t := by
  unfold ldV doV
  rw [if_pos (by simp; omega), if_pos (by omega)]; rfl
theorem wi01 : wi (0 + 1) = 1 := rfl
theorem ld_b (t b : Int) (s : List Int) : ldV (t :: b :: s) (wi (0 + 1)) = b := by
  rw [wi01]
  unfold ldV doV
  rw [if_pos (by simp; omega), if_pos (by omega)]; rfl
theorem ld_b1 (t b : Int) (s : List Int) : ldV (t :: b :: s) (wi 1) = b := ld_b t b s
theorem sz_c {c : Int} (hc : 1 ≤ c ∧ c ≤ 4) : wu (maxI c 1) = c := by
  rw [maxI_def]
  have : (if (1 : Int) > c then 1 else c) = c := by split <;> omega
  rw [this]; exact wu_sm ⟨by omega, by omega⟩
theorem pl_c {c i : Int} (hc : 1 ≤ c ∧ c ≤ 4) (hi : 0 ≤ i) : plR 0 c i = 2 + i % c := by
  have hm : 0 ≤ i % c ∧ i % c < c := ⟨Int.emod_nonneg _ (by omega), Int.emod_lt_of_pos _ (by omega)⟩
  unfold plR
  rw [sz_c hc, Int.tmod_eq_emod_of_nonneg hi, wi_sm (n := i % c) ⟨by omega, by omega⟩]
  have : wi (0 + 2) = 2 := rfl
  rw [this]; exact wi_sm ⟨by omega, by omega⟩
theorem mod_in {c i : Int} (hc : 1 ≤ c ∧ c ≤ 4) : 0 ≤ i % c ∧ i % c < c := ⟨Int.emod_nonneg _ (by omega), Int.emod_lt_of_pos _ (by omega)⟩
theorem ld_s {c i t b : Int} {s : List Int} (hc : 1 ≤ c ∧ c ≤ 4) (hs : (s.length : Int) = c) (hi : 0 ≤ i) : ldV (t :: b :: s) (plR 0 c i) = sl s c i := by
  have hm := mod_in (i := i) hc
  rw [pl_c hc hi]
  unfold ldV doV sl
  rw [if_pos (by simp; omega), if_pos (by omega)]
  unfold at0
  have e : (2 + i % c).toNat = (i % c).toNat + 2 := by omega
  rw [e]; rfl
theorem st_b (t b v : Int) (s : List Int) : stL (t :: b :: s) (wi (0 + 1)) v = t :: v :: s := by
  rw [wi01]
  unfold stL doL
  rw [if_pos (by simp; omega), if_pos rfl]; rfl
theorem st_b1 (t b v : Int) (s : List Int) : stL (t :: b :: s) (wi 1) v = t :: v :: s := st_b t b v s
theorem st_s {c i t b v : Int} {s : List Int} (hc : 1 ≤ c ∧ c ≤ 4) (hs : (s.length : Int) = c) (hi : 0 ≤ i) : stL (t :: b :: s) (plR 0 c i) v = t :: b :: s.set (i % c).toNat v := by
  have hm := mod_in (i := i) hc
  rw [pl_c hc hi]
  unfold stL doL
  rw [if_pos (by simp; omega), if_pos rfl]
  have e : (2 + i % c).toNat = (i % c).toNat + 2 := by omega
  rw [e]; rfl
theorem do_t (t b a v : Int) (s : List Int) : doL (t :: b :: s) 3 0 a v = if t = a then v :: b :: s else t :: b :: s := by
  unfold doL
  rw [if_pos (by simp; omega), if_neg (by omega), if_pos rfl]
  rfl
theorem dob_t (t b a : Int) (s : List Int) : doB (t :: b :: s) 3 0 a = decide (t = a) := by
  unfold doB
  have : at0 (t :: b :: s) 0 = t := rfl
  simp [this]
  intro _; omega
/-- above, of small ones -/
theorem abv {a b : Int} (ha : 0 ≤ a ∧ a ≤ 100000) (hb : 0 ≤ b ∧ b ≤ 100000) : ltI 0 (wi (wu (a - b))) = decide (b < a) := by
  rw [ltI_def, Bool.eq_iff_iff]
  simp only [decide_eq_true_iff]
  obtain ⟨q, h1, h2, h3⟩ := wu_mod (a - b)
  obtain ⟨r, h4, h5, h6⟩ := wi_mod (wu (a - b))
  omega
/-- an owner, where it stands; the end of what is in the deque; what it has in its hand -/
inductive OwI (c t b nx : Int) (s : List Int) : DM → Int → List Int → Prop
  | idle (o : DM) (h : o.out ≠ 0) : OwI c t b nx s o b []
  | p0 (B T x : Int) (h : 1 ≤ x ∧ x < nx) (hi : ∀ i, t ≤ i → i < b → sl s c i < x) : OwI c t b nx s ⟨1, 0, 0, c, B, T, x, 0⟩ b []
  | p1 (T x : Int) (h : 1 ≤ x ∧ x < nx) (hi : ∀ i, t ≤ i → i < b → sl s c i < x) : OwI c t b nx s ⟨1, 1, 0, c, b, T, x, 0⟩ b []
  | p2 (T x : Int) (h : 1 ≤ x ∧ x < nx) (hi : ∀ i, t ≤ i → i < b → sl s c i < x) (hr : b - t < c) : OwI c t b nx s ⟨1, 2, 0, c, b, T, x, 0⟩ b []
  | p3 (T x : Int) (h : 1 ≤ x ∧ x < nx) (hi : ∀ i, t ≤ i → i < b → sl s c i < x) (hr : b - t < c) (hx : sl s c b = x) : OwI c t b nx s ⟨1, 3, 0, c, b, T, x, 0⟩ b []
  | q0 (B T X : Int) : OwI c t b nx s ⟨2, 0, 0, c, B, T, X, 0⟩ b []
  | q1 (T X : Int) : OwI c t b nx s ⟨2, 1, 0, c, b, T, X, 0⟩ b []
  | q2 (T X : Int) : OwI c t b nx s ⟨2, 2, 0, c, b + 1, T, X, 0⟩ (b + 1) []
  | q3r (X : Int) (h : b ≤ t) : OwI c t b nx s ⟨2, 3, 0, c, b + 1, b, X, 0⟩ (b + 1) []
  | q3 (T X : Int) (h : T < b) (h2 : T ≤ t) (h3 : 1 ≤ sl s c b ∧ sl s c b < nx) (h4 : 0 ≤ T) : OwI c t b nx s ⟨2, 3, 0, c, b + 1, T, X, 0⟩ b [sl s c b]
  | q4 (X : Int) (h : b ≤ t) (h2 : t = b → X = sl s c b) : OwI c t b nx s ⟨2, 4, 0, c, b + 1, b, X, 0⟩ (b + 1) []
  | q5 (T X : Int) (h : t = b + 1) : OwI c t b nx s ⟨2, 5, 0, c, b + 1, T, X, 0⟩ (b + 1) []
  | q6 (T X : Int) (h : t = b + 1) (h2 : 1 ≤ X ∧ X < nx) : OwI c t b nx s ⟨2, 6, 0, c, b + 1, T, X, 0⟩ (b + 1) [X]
/-- who steals, where it stands -/
def ThI (c t E : Int) (s : List Int) (d : DM) : Prop :=
  d.kind = 3 ∧ d.base = 0 ∧ d.cap = c ∧ d.out = 0 ∧ (d.pc = 0 ∨ (d.pc = 1 ∧ 1 ≤ d.t ∧ d.t ≤ t) ∨ (d.pc = 2 ∧ 1 ≤ d.t ∧ d.t ≤ t ∧ (d.t = t → t < E)) ∨ (d.pc = 3 ∧ 1 ≤ d.t ∧ d.t ≤ t ∧ (d.t = t → t < E ∧ d.x = sl s c t)))
theorem th_keep {c t t' E E' : Int} {s s' : List Int} {d : DM} (h : ThI c t E s d) (ht : t ≤ t') (hk : t' = t → t < E → t < E' ∧ sl s' c t = sl s c t) : ThI c t' E' s' d := by
  obtain ⟨h1, h2, h3, h4, h5⟩ := h
  refine ⟨h1, h2, h3, h4, ?_⟩
  rcases h5 with h | ⟨h, g1, g2⟩ | ⟨h, g1, g2, g3⟩ | ⟨h, g1, g2, g3⟩
  · exact .inl h
  · exact .inr (.inl ⟨h, g1, by omega⟩)
  · refine .inr (.inr (.inl ⟨h, g1, by omega, fun e => ?_⟩))
    have e2 : t' = t := by omega
    rw [e2]; exact (hk e2 (g3 (by omega))).1
  · refine .inr (.inr (.inr ⟨h, g1, by omega, fun e => ?_⟩))
    have e2 : t' = t := by omega
    obtain ⟨k1, k2⟩ := g3 (by omega)
    obtain ⟨k3, k4⟩ := hk e2 k1
    rw [e2]; exact ⟨k3, by rw [k2, k4]⟩
/-- the owner, where another one stole -/
theorem own_keep {c t b nx E : Int} {s : List Int} {o : DM} {H : List Int} (h : OwI c t b nx s o E H) (ht : t < E) : OwI c (t + 1) b nx s o E H := by
  cases h with
  | idle _ h => exact .idle _ h
  | p0 B T x h hi => exact .p0 B T x h fun i h1 h2 => hi i (by omega) h2
  | p1 T x h hi => exact .p1 T x h fun i h1 h2 => hi i (by omega) h2
  | p2 T x h hi hr => exact .p2 T x h (fun i h1 h2 => hi i (by omega) h2) (by omega)
  | p3 T x h hi hr hx => exact .p3 T x h (fun i h1 h2 => hi i (by omega) h2) (by omega) hx
  | q0 B T X => exact .q0 B T X
  | q1 T X => exact .q1 T X
  | q2 T X => exact .q2 T X
  | q3r X h => exact .q3r X (by omega)
  | q3 T X h h2 h3 h4 => exact .q3 T X h (by omega) h3 h4
  | q4 X h h2 => exact .q4 X (by omega) fun e => by omega
  | q5 T X h => omega
  | q6 T X h h2 => omega
/-- what an owner's step does -/
inductive OwR (c t : Int) (s : List Int) (E : Int) (H : List Int) (o' : DM) : Int → Int → List Int → Int → List Int → Prop
  | same (b' : Int) (s' : List Int) (he : ∀ i, t ≤ i → i < E → sl s' c i = sl s c i) (ho : o'.out ≠ 1) : OwR c t s E H o' t b' s' E H
  | push (b' : Int) (hH : H = []) (ho : o'.out = 1 ∧ o'.kind = 1) (hx : sl s c E = o'.x) (hi : ∀ i, t ≤ i → i < E → sl s c i < o'.x) : OwR c t s E H o' t b' s (E + 1) []
  | hold (b' : Int) (hH : H = []) (ho : o'.out ≠ 1) (ht : t < E - 1) : OwR c t s E H o' t b' s (E - 1) [sl s c (E - 1)]
  | got (b' : Int) (hH : H = [o'.x]) (ho : o'.out = 1 ∧ o'.kind = 2) : OwR c t s E H o' t b' s E []
  | won (b' : Int) (hH : H = []) (ho : o'.out ≠ 1) (ht : t + 1 = E) : OwR c t s E H o' (t + 1) b' s E [sl s c t]
theorem mod_ne {c i j : Int} (hc : 1 ≤ c ∧ c ≤ 4) (h1 : i < j) (h2 : j - i < c) : i % c ≠ j % c := by
  intro e
  have : (j - i) % c = 0 := by
    rw [Int.sub_emod, ← e]; simp
  rw [Int.emod_eq_of_lt (by omega) h2] at this
  omega
theorem sl_set_ne {s : List Int} {c i j v : Int} (hc : 1 ≤ c ∧ c ≤ 4) (h1 : i < j) (h2 : j - i < c) : sl (s.set (j % c).toNat v) c i = sl s c i := by
  have hm := mod_in (i := i) hc
  have hn := mod_in (i := j) hc
  have hne := mod_ne hc h1 h2
  unfold sl at0
  rw [List.getElem?_set_ne (by omega)]
theorem sl_set_eq {s : List Int} {c j v : Int} (hc : 1 ≤ c ∧ c ≤ 4) (hs : (s.length : Int) = c) : sl (s.set (j % c).toNat v) c j = v := by
  have hn := mod_in (i := j) hc
  unfold sl at0
  rw [List.getElem?_set_self (by omega)]; rfl
theorem own_step {c t b nx E : Int} {s : List Int} {o : DM} {H : List Int} (hc : 1 ≤ c ∧ c ≤ 4) (hs : (s.length : Int) = c) (ht : 1 ≤ t ∧ t ≤ E ∧ E - t ≤ c ∧ E ≤ 1000) (hnx : nx ≤ 1000)
    (hI : ∀ i, t ≤ i → i < E → 1 ≤ sl s c i ∧ sl s c i < nx) (h : OwI c t b nx s o E H) (ho : o.out = 0) :
    ∃ t' b' s' E' H' o', dstep (t :: b :: s) o = (t' :: b' :: s', o') ∧ OwI c t' b' nx s' o' E' H' ∧ OwR c t s E H o' t' b' s' E' H' ∧ s'.length = s.length ∧ (∀ v ∈ s', v ∈ s ∨ R64 v) := by
  have hsz := sz_c hc
  cases h with
  | idle _ h => exact absurd ho h
  | p0 B T x h hi =>
    refine ⟨t, b, s, _, _, ⟨1, 1, 0, c, b, T, x, 0⟩, ?_, .p1 T x h hi, .same b s (fun _ _ _ => rfl) (by simp), rfl, fun v hv => .inl hv⟩
    simp [dstep, ld_b1]
  | p1 T x h hi =>
    by_cases hr : b - t < c
    · refine ⟨t, b, s, _, _, ⟨1, 2, 0, c, b, t, x, 0⟩, ?_, .p2 t x h hi hr, .same b s (fun _ _ _ => rfl) (by simp), rfl, fun v hv => .inl hv⟩
      have : leI (wu (maxI c 1)) (wu (b - t)) = false := by rw [hsz, wu_sm ⟨by omega, by omega⟩, le_f]; omega
      simp [dstep, ld_t, this]
    · refine ⟨t, b, s, _, _, ⟨1, 2, 0, c, b, t, x, 3⟩, ?_, .idle _ (by simp), .same b s (fun _ _ _ => rfl) (by simp), rfl, fun v hv => .inl hv⟩
      have : leI (wu (maxI c 1)) (wu (b - t)) = true := by rw [hsz, wu_sm ⟨by omega, by omega⟩, le_t]; omega
      simp [dstep, ld_t, this]
  | p2 T x h hi hr =>
    refine ⟨t, b, s.set (b % c).toNat x, _, _, ⟨1, 3, 0, c, b, T, x, 0⟩, ?_, .p3 T x h (fun i h1 h2 => ?_) hr (sl_set_eq hc hs), .same b _ (fun i h1 h2 => sl_set_ne hc h2 (by omega)) (by simp), by simp, fun v hv => ?_⟩
    · have e : wu x = x := wu_sm ⟨by omega, by omega⟩
      simp [dstep, st_s hc hs (show 0 ≤ b by omega), e]
    · rw [sl_set_ne hc h2 (by omega)]; exact hi i h1 h2
    · rcases List.mem_or_eq_of_mem_set hv with h | h
      · exact .inl h
      · right; subst h; unfold R64; omega
  | p3 T x h hi hr hx =>
    refine ⟨t, b + 1, s, b + 1, [], ⟨1, 4, 0, c, b, T, x, 1⟩, ?_, .idle _ (by simp), .push _ rfl ⟨rfl, rfl⟩ hx hi, rfl, fun v hv => .inl hv⟩
    have e : wu (b + 1) = b + 1 := wu_sm ⟨by omega, by omega⟩
    simp [dstep, e, st_b1]
  | q0 B T X =>
    refine ⟨t, b, s, _, _, ⟨2, 1, 0, c, b, T, X, 0⟩, ?_, .q1 T X, .same b s (fun _ _ _ => rfl) (by simp), rfl, fun v hv => .inl hv⟩
    simp [dstep, ld_b1]
  | q1 T X =>
    refine ⟨t, b - 1, s, _, _, ⟨2, 2, 0, c, b, T, X, 0⟩, ?_, ?_, .same _ s (fun _ _ _ => rfl) (by simp), rfl, fun v hv => .inl hv⟩
    · have e : wu (b - 1) = b - 1 := wu_sm ⟨by omega, by omega⟩
      simp [dstep, e, st_b1]
    · have := OwI.q2 (c := c) (t := t) (b := b - 1) (nx := nx) (s := s) T X
      rw [show b - 1 + 1 = b by omega] at this
      exact this
  | q2 T X =>
    have e1 : b + 1 - 1 = b := by omega
    have e2 : wu b = b := wu_sm ⟨by omega, by omega⟩
    have ha := abv (a := t) (b := b) ⟨by omega, by omega⟩ ⟨by omega, by omega⟩
    rcases Int.lt_trichotomy t b with hlt | heq | hgt
    · refine ⟨t, b, s, _, _, ⟨2, 3, 0, c, b + 1, t, X, 0⟩, ?_, .q3 t X hlt (Int.le_refl _) (hI b (by omega) (by omega)) (by omega), ?_, rfl, fun v hv => .inl hv⟩
      · rw [decide_eq_false (by omega)] at ha
        simp [dstep, ld_t, e1, e2, ha]
      · have := OwR.hold (c := c) (t := t) (s := s) (E := b + 1) (H := []) (o' := ⟨2, 3, 0, c, b + 1, t, X, 0⟩) b rfl (by simp) (by omega)
        rw [e1] at this; exact this
    · refine ⟨t, b, s, _, _, ⟨2, 3, 0, c, b + 1, b, X, 0⟩, ?_, .q3r X (by omega), .same _ s (fun _ _ _ => rfl) (by simp), rfl, fun v hv => .inl hv⟩
      rw [decide_eq_false (by omega)] at ha
      have h0 : ltI 0 (wi (wu 0)) = false := by rw [heq, Int.sub_self] at ha; exact ha
      simp [dstep, ld_t, e1, e2, h0, heq]
    · refine ⟨t, b, s, _, _, ⟨2, 5, 0, c, b + 1, t, X, 0⟩, ?_, .q5 t X (by omega), .same _ s (fun _ _ _ => rfl) (by simp), rfl, fun v hv => .inl hv⟩
      rw [decide_eq_true (by omega)] at ha
      simp [dstep, ld_t, e1, e2, ha]
  | q3r X h =>
    have e1 : b + 1 - 1 = b := by omega
    have e2 : wu b = b := wu_sm ⟨by omega, by omega⟩
    have hl := ld_s (t := t) (b := b) (i := b) hc hs (by omega)
    refine ⟨t, b, s, _, _, ⟨2, 4, 0, c, b + 1, b, wi (sl s c b), 0⟩, ?_, .q4 _ h fun e => ?_, .same _ s (fun _ _ _ => rfl) (by simp), rfl, fun v hv => .inl hv⟩
    · simp [dstep, e1, e2, hl]
    · have := hI b (by omega) (by omega)
      exact wi_sm ⟨by omega, by omega⟩
  | q3 T X h h2 h3 h4 =>
    have e1 : b + 1 - 1 = b := by omega
    have e2 : wu b = b := wu_sm ⟨by omega, by omega⟩
    have hl := ld_s (t := t) (b := b) (i := b) hc hs (by omega)
    have hx : wi (sl s c b) = sl s c b := wi_sm ⟨by omega, by omega⟩
    have hne : eqI T b = false := by rw [eq_f]; omega
    refine ⟨t, b, s, _, _, ⟨2, 4, 0, c, b + 1, T, sl s c b, 1⟩, ?_, .idle _ (by simp), .got b rfl ⟨rfl, rfl⟩, rfl, fun v hv => .inl hv⟩
    simp [dstep, e1, e2, hl, hx, hne]
  | q4 X h h2 =>
    have e2 : wu (b + 1) = b + 1 := wu_sm ⟨by omega, by omega⟩
    by_cases he : t = b
    · have hx := h2 he
      have hI2 := hI b (by omega) (by omega)
      refine ⟨b + 1, b, s, _, _, ⟨2, 6, 0, c, b + 1, b, X, 0⟩, ?_, .q6 b X rfl (by rw [hx]; exact hI2), ?_, rfl, fun v hv => .inl hv⟩
      · simp [dstep, do_t, dob_t, he, e2]
      · have := OwR.won (c := c) (t := t) (s := s) (E := b + 1) (H := []) (o' := ⟨2, 6, 0, c, b + 1, b, X, 0⟩) b rfl (by simp) (by omega)
        rw [he] at this
        rw [he, show ([X] : List Int) = [sl s c b] by rw [hx]]; exact this
    · refine ⟨t, b, s, _, _, ⟨2, 5, 0, c, b + 1, b, X, 0⟩, ?_, .q5 b X (by omega), .same _ s (fun _ _ _ => rfl) (by simp), rfl, fun v hv => .inl hv⟩
      simp [dstep, do_t, dob_t, he]
  | q5 T X h =>
    refine ⟨t, b + 1, s, _, _, ⟨2, 6, 0, c, b + 1, T, 0, 2⟩, ?_, .idle _ (by simp), .same _ s (fun _ _ _ => rfl) (by simp), rfl, fun v hv => .inl hv⟩
    simp [dstep, st_b1]
  | q6 T X h h2 =>
    refine ⟨t, b + 1, s, _, _, ⟨2, 7, 0, c, b + 1, T, X, 1⟩, ?_, .idle _ (by simp), .got _ rfl ⟨rfl, rfl⟩, rfl, fun v hv => .inl hv⟩
    simp [dstep, st_b1]
/-- what a thief's step does -/
theorem th_step {c t b nx E : Int} {s : List Int} {d o : DM} {H : List Int} (hc : 1 ≤ c ∧ c ≤ 4) (hs : (s.length : Int) = c) (ht : 1 ≤ t ∧ t ≤ E ∧ E - t ≤ c ∧ E ≤ 1000) (hnx : nx ≤ 1000)
    (hI : ∀ i, t ≤ i → i < E → 1 ≤ sl s c i ∧ sl s c i < nx) (hbE : b ≤ E ∧ 0 ≤ b) (h : ThI c t E s d) :
    (∃ d', dstep (t :: b :: s) d = (t :: b :: s, d') ∧ d'.out ≠ 1 ∧ (d'.out = 0 → ThI c t E s d')) ∨ (∃ d', dstep (t :: b :: s) d = ((t + 1) :: b :: s, d') ∧ d'.out = 1 ∧ d'.x = sl s c t ∧ t < E) := by
  obtain ⟨k, pc, base, cap, B, T, x, out⟩ := d
  obtain ⟨h1, h2, h3, h4, h5⟩ := h
  simp only at h1 h2 h3 h4 h5
  subst h1 h2 h3 h4
  rcases h5 with rfl | ⟨rfl, g1, g2⟩ | ⟨rfl, g1, g2, g3⟩ | ⟨rfl, g1, g2, g3⟩
  · left
    refine ⟨⟨3, 1, 0, cap, B, t, x, 0⟩, by simp [dstep, ld_t], by simp, fun _ => ⟨rfl, rfl, rfl, rfl, .inr (.inl ⟨rfl, ht.1, Int.le_refl _⟩)⟩⟩
  · left
    have ha := abv (a := b) (b := T) ⟨by omega, by omega⟩ ⟨by omega, by omega⟩
    by_cases hlt : T < b
    · rw [decide_eq_true hlt] at ha
      refine ⟨⟨3, 2, 0, cap, b, T, x, 0⟩, by simp [dstep, ld_b1, ha], by simp, fun _ => ⟨rfl, rfl, rfl, rfl, .inr (.inr (.inl ⟨rfl, g1, g2, fun e => ?_⟩))⟩⟩
      simp only at e
      omega
    · rw [decide_eq_false hlt] at ha
      refine ⟨⟨3, 2, 0, cap, b, T, x, 2⟩, by simp [dstep, ld_b1, ha], by simp, fun e => by simp at e⟩
  · left
    have hl := ld_s (t := t) (b := b) (i := T) hc hs (by omega)
    refine ⟨⟨3, 3, 0, cap, B, T, wi (sl s cap T), 0⟩, by simp [dstep, hl], by simp, fun _ => ⟨rfl, rfl, rfl, rfl, .inr (.inr (.inr ⟨rfl, g1, g2, fun e => ?_⟩))⟩⟩
    simp only at e
    have hlt := g3 e
    have := hI t (Int.le_refl _) hlt
    refine ⟨hlt, ?_⟩
    rw [e]; exact wi_sm ⟨by omega, by omega⟩
  · by_cases he : t = T
    · right
      obtain ⟨k1, k2⟩ := g3 he.symm
      have e2 : wu (T + 1) = T + 1 := wu_sm ⟨by omega, by omega⟩
      refine ⟨⟨3, 4, 0, cap, B, T, x, 1⟩, by simp [dstep, do_t, dob_t, he, e2], rfl, by simp only; omega, k1⟩
    · left
      refine ⟨⟨3, 4, 0, cap, B, T, 0, 4⟩, by simp [dstep, do_t, dob_t, he], by simp, fun e => by simp at e⟩
/-- what is in a deque -/
def itR (s : List Int) (c t : Int) : Nat → List Int
  | 0 => []
  | k + 1 => itR s c t k ++ [sl s c (t + k)]
def itm (s : List Int) (c t E : Int) : List Int := itR s c t (E - t).toNat
theorem itR_len (s : List Int) (c t : Int) : ∀ k, (itR s c t k).length = k
  | 0 => rfl
  | k + 1 => by rw [itR, List.length_append, itR_len s c t k]; rfl
theorem itR_same {s s' : List Int} {c t : Int} : ∀ k : Nat, (∀ i, t ≤ i → i < t + k → sl s' c i = sl s c i) → itR s' c t k = itR s c t k
  | 0, _ => rfl
  | k + 1, h => by
    rw [itR, itR, itR_same k fun i h1 h2 => h i h1 (by omega), h (t + k) (by omega) (by omega)]
theorem itR_head (s : List Int) (c t : Int) : ∀ k, itR s c t (k + 1) = sl s c t :: itR s c (t + 1) k
  | 0 => by simp [itR]
  | k + 1 => by
    rw [itR, itR_head s c t k, itR]
    have : t + ((k + 1 : Nat) : Int) = t + 1 + (k : Int) := by omega
    rw [this]; rfl
theorem itR_mem {s : List Int} {c t : Int} : ∀ {k : Nat} {x : Int}, x ∈ itR s c t k → ∃ i, t ≤ i ∧ i < t + k ∧ x = sl s c i
  | 0, x, h => by simp [itR] at h
  | k + 1, x, h => by
    rw [itR, List.mem_append] at h
    rcases h with h | h
    · obtain ⟨i, h1, h2, h3⟩ := itR_mem h
      exact ⟨i, h1, by omega, h3⟩
    · simp at h
      exact ⟨t + k, by omega, by omega, h⟩
theorem itR_at {s : List Int} {c t : Int} : ∀ {k j : Nat}, j < k → at0 (itR s c t k) j = sl s c (t + j)
  | 0, j, h => by omega
  | k + 1, j, h => by
    rw [itR]
    by_cases e : j = k
    · subst e
      simp [at0, itR_len]
    · have := itR_at (s := s) (c := c) (t := t) (k := k) (j := j) (by omega)
      rw [← this]
      simp only [at0, Int.toNat_natCast]
      rw [List.getElem?_append_left (by rw [itR_len]; omega)]
/-- the world, behind so many steps -/
structure QI (c : Int) (w : Wq) (na nb : Bool) (n : Nat) (lst t b : Int) (s : List Int) (E : Int) (H : List Int) : Prop where
  m : w.m = t :: b :: s
  cap : w.cap = c
  c1 : 1 ≤ c ∧ c ≤ 4
  sln : (s.length : Int) = c
  sR : ∀ v ∈ s, R64 v
  t1 : 1 ≤ t ∧ t ≤ E ∧ E - t ≤ c ∧ E ≤ n + 1
  nx : 1 ≤ w.next ∧ w.next ≤ n + 1
  own : OwI c t b w.next s w.owner E H
  oR : R64 w.owner.b ∧ R64 w.owner.t ∧ I64 w.owner.cap ∧ I64 w.owner.x
  th3 : w.thief.length = 3
  th : ∀ d ∈ w.thief, ThI c t E s d
  tR : ∀ d ∈ w.thief, R64 d.b ∧ R64 d.t ∧ I64 d.x
  it : ∀ i, t ≤ i → i < E → lst < sl s c i ∧ sl s c i < w.next
  so : ∀ i j, t ≤ i → i < j → j < E → sl s c i < sl s c j
  l0 : 0 ≤ lst ∧ lst < w.next
  hd : ∀ x ∈ H, 1 ≤ x ∧ x < w.next
  perm : ∀ x, w.pushed.count x = (itm s c t E).count x + H.count x + w.got.count x
  nil : (na = true → w.pushed = []) ∧ (nb = true → w.got = [])
  len : w.pushed.length ≤ n
  mem : ∀ x ∈ w.pushed, 1 ≤ x ∧ x < w.next
  px : w.owner.kind = 1 → w.owner.out = 0 → lst < w.owner.x
theorem own_b {c t b nx E : Int} {s : List Int} {o : DM} {H : List Int} (h : OwI c t b nx s o E H) : b = E ∨ b + 1 = E := by
  cases h <;> omega
theorem QI.gl {c : Int} {w : Wq} {na nb : Bool} {n : Nat} {lst t b : Int} {s : List Int} {E : Int} {H : List Int} (h : QI c w na nb n lst t b s E H) : (∀ x ∈ w.got, 1 ≤ x ∧ x < w.next) ∧ w.got.length ≤ n := by
  refine ⟨fun x hx => h.mem x ?_, ?_⟩
  · have h1 := h.perm x
    have h2 := List.count_pos_iff.2 hx
    exact List.count_pos_iff.1 (by omega)
  · have hp : w.pushed.Perm ((itm s c t E ++ H) ++ w.got) := perm_count.2 fun x => by
      rw [List.count_append, List.count_append, h.perm x]
    have := hp.length_eq
    have hl := h.len
    simp at this
    omega
theorem QI.ok {c : Int} {w : Wq} {na nb : Bool} {n : Nat} {lst t b : Int} {s : List Int} {E : Int} {H : List Int} (h : QI c w na nb n lst t b s E H) (hn : n ≤ 900) : QOk w na nb := by
  obtain ⟨g1, g2⟩ := h.gl
  have hb := own_b h.own
  have ht := h.t1
  have hx := h.nx
  have hc := h.c1
  refine ⟨⟨?_, ?_⟩, ?_, h.th3, fun d hd => ⟨?_, (h.tR d hd).2.2⟩, h.oR.2.2, ?_, ⟨h.nil.1, fun x hx => ?_, by have := h.len; omega⟩, ⟨h.nil.2, fun x hx => ?_, by omega⟩⟩
  · rw [h.m]
    intro v hv
    simp at hv
    rcases hv with rfl | rfl | hv
    · unfold R64; omega
    · unfold R64; omega
    · exact h.sR v hv
  · rw [h.m]
    unfold Sz maxBytes
    rw [us_len]
    have := h.sln
    simp; omega
  · rw [h.cap]; unfold I64; omega
  · rw [(h.th d hd).2.2.1]; unfold I64; omega
  · unfold I64; omega
  · have := h.mem x hx; unfold I64; omega
  · have := g1 x hx; unfold I64; omega
theorem add1_count (l : List Int) (o x : Int) : (addB l o 1).count x = l.count x + [o].count x := by
  rw [addB_count]
  by_cases h : x = o
  · subst h; simp; decide
  · have : ¬ o = x := fun e => h e.symm
    simp [h, this]
theorem add1_perm (l : List Int) (o : Int) : (addB l o 1).Perm (o :: l) := perm_count.2 fun x => by
  rw [add1_count, List.count_cons]
  by_cases h : o = x <;> simp [h]
theorem add1_len (l : List Int) (o : Int) : (addB l o 1).length = l.length + 1 := by
  have := (add1_perm l o).length_eq
  simpa using this
theorem add1_mem {l : List Int} {o x : Int} : x ∈ addB l o 1 ↔ x = o ∨ x ∈ l := by
  rw [(add1_perm l o).mem_iff]; simp
theorem itm_head {s : List Int} {c t E : Int} (h : t < E) : itm s c t E = sl s c t :: itm s c (t + 1) E := by
  unfold itm
  have : (E - t).toNat = (E - (t + 1)).toNat + 1 := by omega
  rw [this, itR_head]
theorem itm_snoc {s : List Int} {c t E : Int} (h : t ≤ E) : itm s c t (E + 1) = itm s c t E ++ [sl s c E] := by
  unfold itm
  have : (E + 1 - t).toNat = (E - t).toNat + 1 := by omega
  rw [this, itR]
  have : t + ((E - t).toNat : Int) = E := by omega
  rw [this]
theorem itm_same {s s' : List Int} {c t E : Int} (ht : t ≤ E) (h : ∀ i, t ≤ i → i < E → sl s' c i = sl s c i) : itm s' c t E = itm s c t E :=
  itR_same _ fun i h1 h2 => h i h1 (by omega)
theorem itm_nil {s : List Int} {c t : Int} : itm s c t t = [] := by unfold itm; rw [Int.sub_self]; rfl
theorem own_px {c t b nx E : Int} {s : List Int} {o : DM} {H : List Int} (h : OwI c t b nx s o E H) (hk : o.kind = 1) (ho : o.out = 0) (ht : t < E) : sl s c t < o.x := by
  cases h with
  | idle _ h => exact absurd ho h
  | p0 B T x h hi => exact hi t (Int.le_refl _) ht
  | p1 T x h hi => exact hi t (Int.le_refl _) ht
  | p2 T x h hi hr => exact hi t (Int.le_refl _) ht
  | p3 T x h hi hr hx => exact hi t (Int.le_refl _) ht
  | _ => simp at hk
/-- who steals -/
theorem qi_steal {c : Int} {w : Wq} {na nb : Bool} {n : Nat} {lst t b : Int} {s : List Int} {E : Int} {H : List Int} (h : QI c w na nb n lst t b s E H) (hn : n ≤ 900) {k : Nat} (hk : k < 3) :
    ∃ t' lst', QI c (stealQ w k) na (nb && decide ((dstep w.m (dAt w.thief k)).2.out ≠ 1)) (n + 1) lst' t' b s E H ∧
      (((dstep w.m (dAt w.thief k)).2.out ≠ 1 ∧ (stealQ w k).got = w.got ∧ lst' = lst) ∨ ((dstep w.m (dAt w.thief k)).2.out = 1 ∧ lst' = (dstep w.m (dAt w.thief k)).2.x ∧ (stealQ w k).got = addB w.got lst' 1 ∧ lst < lst')) := by
  have hkl : k < w.thief.length := by rw [h.th3]; exact hk
  have hdm : dAt w.thief k ∈ w.thief := by simp [dAt, hkl]
  have hb := own_b h.own
  obtain ⟨hT1, hT2, hT3, hT4⟩ := h.t1
  have hx := h.nx
  have hl0 := h.l0
  have hR := dmach_R (l := w.m) (d := dAt w.thief k) (h.ok hn).m.1 (h.tR _ hdm).1 (h.tR _ hdm).2.1
  have hX := dstep_x w.m (h.tR _ hdm).2.2
  have hthk : ∀ d', (d'.out = 0 → ThI c t E s d') → (d'.out ≠ 0 → True) → True := fun _ _ _ => trivial
  have hst0 : ∀ t', ThI c t' E s (stD0 w.cap) := fun t' => by
    rw [h.cap]
    exact ⟨rfl, rfl, rfl, rfl, .inl rfl⟩
  have htR : ∀ d ∈ w.thief.set k (if (dstep w.m (dAt w.thief k)).2.out ≠ 0 then stD0 w.cap else (dstep w.m (dAt w.thief k)).2), R64 d.b ∧ R64 d.t ∧ I64 d.x := fun d hd => by
    rcases List.mem_or_eq_of_mem_set hd with hd | rfl
    · exact h.tR d hd
    · split
      · unfold stD0; refine ⟨?_, ?_, ?_⟩ <;> simp only <;> first | (unfold R64; omega) | (unfold I64; omega)
      · exact ⟨hR.2.1, hR.2.2, hX⟩
  rcases th_step (nx := w.next) (b := b) (o := default) (H := []) h.c1 h.sln ⟨hT1, hT2, hT3, by omega⟩ (by omega) (fun i h1 h2 => by have := h.it i h1 h2; omega) (by omega) (h.th _ hdm) with ⟨d', he, ho, hi⟩ | ⟨d', he, ho, hxx, hlt⟩
  · rw [← h.m] at he
    refine ⟨t, lst, ⟨?_, h.cap, h.c1, h.sln, h.sR, ⟨hT1, hT2, hT3, by omega⟩, ⟨by show 1 ≤ w.next; omega, by show w.next ≤ _; omega⟩, h.own, h.oR, ?_, ?_, htR, h.it, h.so, h.l0, h.hd, ?_, ⟨h.nil.1, ?_⟩, by show w.pushed.length ≤ _; have := h.len; omega, h.mem, h.px⟩, .inl ⟨by rw [he]; exact ho, ?_, rfl⟩⟩
    · simp only [stealQ, he]; exact h.m
    · simp only [stealQ, List.length_set]; exact h.th3
    · simp only [stealQ, he]
      intro d hd
      rcases List.mem_or_eq_of_mem_set hd with hd | rfl
      · exact h.th d hd
      · split
        · exact hst0 t
        · rename_i hz; exact hi (by simpa using hz)
    · intro x
      simp only [stealQ, he, if_neg ho]
      exact h.perm x
    · simp only [stealQ, he, if_neg ho]
      intro e
      exact h.nil.2 (by simp at e; exact e.1)
    · simp only [stealQ, he, if_neg ho]
  · rw [← h.m] at he
    have hit := h.it t (Int.le_refl _) hlt
    refine ⟨t + 1, d'.x, ⟨?_, h.cap, h.c1, h.sln, h.sR, ⟨by omega, by omega, by omega, by omega⟩, ⟨by show 1 ≤ w.next; omega, by show w.next ≤ _; omega⟩, own_keep h.own hlt, h.oR, ?_, ?_, htR, fun i h1 h2 => ?_, fun i j h1 h2 h3 => h.so i j (by omega) h2 h3, ?_, h.hd, ?_, ⟨h.nil.1, ?_⟩, by show w.pushed.length ≤ _; have := h.len; omega, h.mem, fun e1 e2 => by rw [hxx]; exact own_px h.own e1 e2 hlt⟩, .inr ⟨by rw [he]; exact ho, by rw [he], ?_, ?_⟩⟩
    · simp only [stealQ, he]
    · simp only [stealQ, List.length_set]; exact h.th3
    · simp only [stealQ, he]
      intro d hd
      rcases List.mem_or_eq_of_mem_set hd with hd | rfl
      · exact th_keep (h.th d hd) (by omega) fun e => by omega
      · rw [if_pos (by omega)]; exact hst0 _
    · rw [hxx]
      exact ⟨h.so t i (Int.le_refl _) (by omega) h2, (h.it i (by omega) h2).2⟩
    · rw [hxx]; show 0 ≤ _ ∧ _ < w.next; omega
    · intro x
      simp only [stealQ, he, if_pos ho]
      have := h.perm x
      rw [itm_head hlt, List.count_cons] at this
      rw [add1_count, this, hxx, List.count_singleton]
      omega
    · simp only [stealQ, he, if_pos ho]
      intro e
      simp [ho] at e
    · simp only [stealQ, he, if_pos ho]
    · rw [hxx]; exact hit.1
theorem own_idle {c t b nx E : Int} {s : List Int} {o : DM} {H : List Int} (h : OwI c t b nx s o E H) (ho : o.out ≠ 0) : E = b ∧ H = [] := by
  cases h <;> first | exact ⟨rfl, rfl⟩ | exact absurd rfl ho
theorem own_more {c t b nx nx' E : Int} {s : List Int} {o : DM} {H : List Int} (h : OwI c t b nx s o E H) (hx : nx ≤ nx') : OwI c t b nx' s o E H := by
  cases h with
  | idle _ h => exact .idle _ h
  | p0 B T x h hi => exact .p0 B T x (by omega) hi
  | p1 T x h hi => exact .p1 T x (by omega) hi
  | p2 T x h hi hr => exact .p2 T x (by omega) hi hr
  | p3 T x h hi hr hx => exact .p3 T x (by omega) hi hr hx
  | q0 B T X => exact .q0 B T X
  | q1 T X => exact .q1 T X
  | q2 T X => exact .q2 T X
  | q3r X h => exact .q3r X h
  | q3 T X h h2 h3 h4 => exact .q3 T X h h2 (by omega) h4
  | q4 X h h2 => exact .q4 X h h2
  | q5 T X h => exact .q5 T X h
  | q6 T X h h2 => exact .q6 T X h (by omega)
theorem dstep_kx (m : List Int) (d : DM) (hk : d.kind = 1) : (dstep m d).2.x = d.x := by
  unfold dstep
  rw [if_pos hk]
  repeat' split
  all_goals rfl
/-- the owner, who begins again, if it had come to its end -/
theorem own_begin {c : Int} {w : Wq} {na nb : Bool} {n : Nat} {lst t b : Int} {s : List Int} {E : Int} {H : List Int} (h : QI c w na nb n lst t b s E H) (hn : n ≤ 900) (y : Int) :
    OwI c t b (ownA w y).2 s (ownA w y).1 E H ∧ (ownA w y).1.out = 0 ∧ w.next ≤ (ownA w y).2 ∧ (ownA w y).2 ≤ w.next + 1 ∧ R64 (ownA w y).1.b ∧ R64 (ownA w y).1.t ∧ I64 (ownA w y).1.cap ∧ I64 (ownA w y).1.x ∧ ((ownA w y).1.kind = 1 → lst < (ownA w y).1.x) := by
  have hx := h.nx
  have hc := h.c1
  have hw : wi (w.next + 1) = w.next + 1 := wi_sm ⟨by omega, by omega⟩
  unfold ownA
  split
  · rename_i ho
    obtain ⟨rfl, rfl⟩ := own_idle h.own ho
    rw [h.cap]
    split
    · exact ⟨.q0 0 0 0, rfl, Int.le_refl _, by simp only; omega, by simp only; unfold R64; omega, by simp only; unfold R64; omega, by simp only; unfold I64; omega, by simp only; unfold I64; omega, fun e => by simp at e⟩
    · rw [hw]
      refine ⟨.p0 0 0 w.next (by simp only; omega) fun i h1 h2 => (h.it i h1 h2).2, rfl, by simp only; omega, Int.le_refl _, by simp only; unfold R64; omega, by simp only; unfold R64; omega, by simp only; unfold I64; omega, by simp only; unfold I64; omega, fun _ => h.l0.2⟩
  · rename_i ho
    obtain ⟨g1, g2, g3, g4⟩ := h.oR
    exact ⟨h.own, by simpa using ho, Int.le_refl _, by simp only; omega, g1, g2, g3, g4, fun e => h.px e (by simpa using ho)⟩
theorem qi_own {c : Int} {w : Wq} {na nb : Bool} {n : Nat} {lst t b : Int} {s : List Int} {E : Int} {H : List Int} (h : QI c w na nb n lst t b s E H) (hn : n ≤ 900) {y : Int} (h3 : ¬ y % 5 < 3) :
    ∃ t' b' s' E' H', QI c (stepQ w y) (nilA w na y) (nilB w nb y) (n + 1) lst t' b' s' E' H' := by
  obtain ⟨hO, ho, hx1, hx2, hR1, hR2, hR3, hR4, hPX⟩ := own_begin h hn y
  have hst : stepQ w y = (let r := dstep w.m (ownA w y).1
  ⟨r.1, w.cap, r.2, w.thief, if r.2.out = 1 ∧ r.2.kind = 1 then addB w.pushed r.2.x 1 else w.pushed, if r.2.out = 1 ∧ r.2.kind = 2 then addB w.got r.2.x 1 else w.got, (ownA w y).2⟩) := by
    unfold stepQ; rw [if_neg h3]
  have hna : nilA w na y = (na && !(decide ((stepQ w y).owner.out = 1 ∧ (stepQ w y).owner.kind = 1))) := by unfold nilA; rw [if_neg h3]
  have hnb : nilB w nb y = (nb && !(decide ((stepQ w y).owner.out = 1 ∧ (stepQ w y).owner.kind = 2))) := by unfold nilB; rw [if_neg h3]
  rw [hna, hnb, hst]
  clear hna hnb hst
  generalize (ownA w y).1 = o at *
  generalize (ownA w y).2 = nx at *
  have hT := h.t1
  have hx := h.nx
  have hl0 := h.l0
  have hmR := (h.ok hn).m.1
  have hRR := dmach_R (l := w.m) (d := o) hmR hR1 hR2
  have hXX := dstep_x w.m hR4
  have hKC := (dstep_keep w.m o).2.2
  have hKX := dstep_kx w.m o
  have hKK := (dstep_keep w.m o).1
  obtain ⟨t', b', s', E', H', o', he, hO', hr, hln, hsR⟩ := own_step (nx := nx) h.c1 h.sln ⟨hT.1, hT.2.1, hT.2.2.1, by omega⟩ (by omega) (fun i h1 h2 => by have := h.it i h1 h2; omega) hO ho
  rw [← h.m] at he
  rw [he] at hRR hXX hKC hKX hKK ⊢
  simp only at hRR hXX hKC hKX hKK ⊢
  have hpx : o'.kind = 1 → o'.out = 0 → lst < o'.x := fun e1 _ => by
    rw [hKX (by omega)]; exact hPX (by omega)
  have hoR : R64 o'.b ∧ R64 o'.t ∧ I64 o'.cap ∧ I64 o'.x := ⟨hRR.2.1, hRR.2.2, by rw [hKC]; exact hR3, hXX⟩
  have hsl : (s'.length : Int) = c := by rw [hln]; exact h.sln
  have hsr : ∀ v ∈ s', R64 v := fun v hv => by
    rcases hsR v hv with h1 | h1
    · exact h.sR v h1
    · exact h1
  have hpl := h.len
  cases hr with
  | same b' s' hse hno =>
    have n1 : ¬ (o'.out = 1 ∧ o'.kind = 1) := fun e => hno e.1
    have n2 : ¬ (o'.out = 1 ∧ o'.kind = 2) := fun e => hno e.1
    refine ⟨t, b', s', E, H, ⟨rfl, h.cap, h.c1, hsl, hsr, ⟨hT.1, hT.2.1, hT.2.2.1, by omega⟩, ⟨by simp only; omega, by simp only; omega⟩, hO', hoR, h.th3, fun d hd => th_keep (h.th d hd) (Int.le_refl _) fun _ hlt => ⟨hlt, hse t (Int.le_refl _) hlt⟩, h.tR, fun i h1 h2 => ?_, fun i j h1 h2 h4 => ?_, ⟨hl0.1, by simp only; omega⟩, fun x hx => ?_, fun x => ?_, ⟨fun e => ?_, fun e => ?_⟩, ?_, fun x hx => ?_, hpx⟩⟩
    · rw [hse i h1 h2]; have := h.it i h1 h2; simp only; omega
    · rw [hse i h1 (by omega), hse j (by omega) h4]; exact h.so i j h1 h2 h4
    · have := h.hd x hx; simp only; omega
    · simp only [if_neg n1, if_neg n2]; rw [itm_same hT.2.1 hse]; exact h.perm x
    · simp only [if_neg n1]; exact h.nil.1 (by simp at e; exact e.1)
    · simp only [if_neg n2]; exact h.nil.2 (by simp at e; exact e.1)
    · simp only [if_neg n1]; omega
    · simp only [if_neg n1] at hx; have := h.mem x hx; simp only; omega
  | push b' hH ho' hxx hi =>
    subst hH
    have n2 : ¬ (o'.out = 1 ∧ o'.kind = 2) := fun e => by omega
    have hEc : E - t < c ∧ 1 ≤ o'.x ∧ o'.x < nx := by
      cases hO with
      | p3 T x h1 h2 h4 h5 => rw [← hxx, h5]; exact ⟨h4, h1⟩
      | idle _ h1 => exact absurd ho h1
      | p0 B T x h1 h2 =>
        exfalso
        have := congrArg (fun z : List Int × DM => z.2.out) he
        rw [h.m] at this
        simp [dstep, ho'.1] at this
      | p1 T x h1 h2 =>
        exfalso
        have := congrArg (fun z : List Int × DM => z.2.out) he
        rw [h.m] at this
        simp [dstep, ho'.1] at this
        split at this <;> omega
      | p2 T x h1 h2 h4 =>
        exfalso
        have := congrArg (fun z : List Int × DM => z.2.out) he
        rw [h.m] at this
        simp [dstep, ho'.1] at this
      | q0 B T X => exfalso; have := congrArg (fun z : List Int × DM => z.2.kind) he; rw [(dstep_keep w.m _).1] at this; simp only [ho'.2] at this; omega
      | q1 T X => exfalso; have := congrArg (fun z : List Int × DM => z.2.kind) he; rw [(dstep_keep w.m _).1] at this; simp only [ho'.2] at this; omega
      | q2 T X => exfalso; have := congrArg (fun z : List Int × DM => z.2.kind) he; rw [(dstep_keep w.m _).1] at this; simp only [ho'.2] at this; omega
      | q3r X h1 => exfalso; have := congrArg (fun z : List Int × DM => z.2.kind) he; rw [(dstep_keep w.m _).1] at this; simp only [ho'.2] at this; omega
      | q4 X h1 h2 => exfalso; have := congrArg (fun z : List Int × DM => z.2.kind) he; rw [(dstep_keep w.m _).1] at this; simp only [ho'.2] at this; omega
      | q5 T X h1 => exfalso; have := congrArg (fun z : List Int × DM => z.2.kind) he; rw [(dstep_keep w.m _).1] at this; simp only [ho'.2] at this; omega
    refine ⟨t, b', s, E + 1, [], ⟨rfl, h.cap, h.c1, hsl, hsr, ⟨hT.1, by omega, by omega, by omega⟩, ⟨by simp only; omega, by simp only; omega⟩, hO', hoR, h.th3, fun d hd => th_keep (h.th d hd) (Int.le_refl _) fun _ hlt => ⟨by omega, rfl⟩, h.tR, fun i h1 h2 => ?_, fun i j h1 h2 h4 => ?_, ⟨hl0.1, by simp only; omega⟩, (fun x hx => (by cases hx)), fun x => ?_, ⟨fun e => ?_, fun e => ?_⟩, ?_, fun x hx => ?_, hpx⟩⟩
    · by_cases e : i = E
      · rw [e, hxx]
        by_cases ht : t < E
        · have := hi t (Int.le_refl _) ht
          have := h.it t (Int.le_refl _) ht
          simp only; omega
        · rw [← hKK] at hPX
          rw [← hKX (by omega)] at hPX
          have := hPX ho'.2
          simp only; omega
      · have := h.it i h1 (by omega); simp only; omega
    · by_cases e : j = E
      · rw [e, hxx]; exact hi i h1 (by omega)
      · exact h.so i j h1 h2 (by omega)
    · simp only [if_pos ho', if_neg n2]
      rw [itm_snoc hT.2.1, List.count_append, add1_count, h.perm x, hxx]
      omega
    · simp [ho'] at e
    · simp only [if_neg n2]; exact h.nil.2 (by simp at e; exact e.1)
    · simp only [if_pos ho']; rw [add1_len]; omega
    · simp only [if_pos ho'] at hx ⊢
      rcases add1_mem.1 hx with rfl | hx
      · exact hEc.2
      · have := h.mem x hx; omega
  | hold b' hH hno htl =>
    subst hH
    have n1 : ¬ (o'.out = 1 ∧ o'.kind = 1) := fun e => hno e.1
    have n2 : ¬ (o'.out = 1 ∧ o'.kind = 2) := fun e => hno e.1
    refine ⟨t, b', s, E - 1, _, ⟨rfl, h.cap, h.c1, hsl, hsr, ⟨hT.1, by omega, by omega, by omega⟩, ⟨by simp only; omega, by simp only; omega⟩, hO', hoR, h.th3, fun d hd => th_keep (h.th d hd) (Int.le_refl _) fun _ hlt => ⟨htl, rfl⟩, h.tR, fun i h1 h2 => ?_, fun i j h1 h2 h4 => h.so i j h1 h2 (by omega), ⟨hl0.1, by simp only; omega⟩, fun x hx => ?_, fun x => ?_, ⟨fun e => ?_, fun e => ?_⟩, ?_, fun x hx => ?_, hpx⟩⟩
    · have := h.it i h1 (by omega); simp only; omega
    · simp at hx
      have := h.it (E - 1) (by omega) (by omega)
      rw [hx]; simp only; omega
    · simp only [if_neg n1, if_neg n2]
      have e1 := itm_snoc (s := s) (c := c) (t := t) (E := E - 1) (by omega)
      rw [show E - 1 + 1 = E by omega] at e1
      have := h.perm x
      rw [e1, List.count_append] at this
      simp at this ⊢
      omega
    · simp only [if_neg n1]; exact h.nil.1 (by simp at e; exact e.1)
    · simp only [if_neg n2]; exact h.nil.2 (by simp at e; exact e.1)
    · simp only [if_neg n1]; omega
    · simp only [if_neg n1] at hx; have := h.mem x hx; simp only; omega
  | got b' hH ho' =>
    subst hH
    have n1 : ¬ (o'.out = 1 ∧ o'.kind = 1) := fun e => by omega
    refine ⟨t, b', s, E, [], ⟨rfl, h.cap, h.c1, hsl, hsr, ⟨hT.1, hT.2.1, hT.2.2.1, by omega⟩, ⟨by simp only; omega, by simp only; omega⟩, hO', hoR, h.th3, h.th, h.tR, fun i h1 h2 => ?_, h.so, ⟨hl0.1, by simp only; omega⟩, (fun x hx => (by cases hx)), fun x => ?_, ⟨fun e => ?_, fun e => ?_⟩, ?_, fun x hx => ?_, hpx⟩⟩
    · have := h.it i h1 h2; simp only; omega
    · simp only [if_neg n1, if_pos ho']
      rw [add1_count, h.perm x]
      simp; omega
    · simp only [if_neg n1]; exact h.nil.1 (by simp at e; exact e.1)
    · simp [ho'] at e
    · simp only [if_neg n1]; omega
    · simp only [if_neg n1] at hx; have := h.mem x hx; simp only; omega
  | won b' hH hno htl =>
    subst hH
    have n1 : ¬ (o'.out = 1 ∧ o'.kind = 1) := fun e => hno e.1
    have n2 : ¬ (o'.out = 1 ∧ o'.kind = 2) := fun e => hno e.1
    refine ⟨t + 1, b', s, E, _, ⟨rfl, h.cap, h.c1, hsl, hsr, ⟨by omega, by omega, by omega, by omega⟩, ⟨by simp only; omega, by simp only; omega⟩, hO', hoR, h.th3, fun d hd => th_keep (h.th d hd) (by omega) fun e => by omega, h.tR, fun i h1 h2 => by omega, fun i j h1 h2 h4 => by omega, ⟨hl0.1, by simp only; omega⟩, fun x hx => ?_, fun x => ?_, ⟨fun e => ?_, fun e => ?_⟩, ?_, fun x hx => ?_, hpx⟩⟩
    · simp at hx
      have := h.it t (by omega) (by omega)
      rw [hx]; simp only; omega
    · simp only [if_neg n1, if_neg n2]
      have := h.perm x
      rw [itm_head (by omega), htl, itm_nil] at this
      rw [htl, itm_nil, this]
      simp only [List.count_nil]
      omega
    · simp only [if_neg n1]; exact h.nil.1 (by simp at e; exact e.1)
    · simp only [if_neg n2]; exact h.nil.2 (by simp at e; exact e.1)
    · simp only [if_neg n1]; omega
    · simp only [if_neg n1] at hx; have := h.mem x hx; simp only; omega
/-- the start -/
def w0 (c : Int) : Wq := ⟨1 :: 1 :: List.replicate c.toNat 0, c, ⟨0, 0, 0, 0, 0, 0, 0, 1⟩, [stD0 c, stD0 c, stD0 c], [], [], 1⟩
theorem qi_0 {c : Int} (hc : 1 ≤ c ∧ c ≤ 4) : QI c (w0 c) true true 0 0 1 1 (List.replicate c.toNat 0) 1 [] := by
  refine ⟨rfl, rfl, hc, by simp; omega, fun v hv => ?_, ⟨by omega, by omega, by omega, by omega⟩, ⟨by simp only [w0]; omega, by simp only [w0]; omega⟩, .idle _ (by simp [w0]), ?_, rfl, fun d hd => ?_, fun d hd => ?_, fun i h1 h2 => by omega, fun i j h1 h2 h3 => by omega, ⟨by omega, by simp only [w0]; omega⟩, (fun x hx => (by cases hx)), fun x => ?_, ⟨fun _ => rfl, fun _ => rfl⟩, Nat.le_refl _, (fun x hx => (by cases hx)), fun e => by simp [w0] at e⟩
  · rw [List.eq_of_mem_replicate hv]; unfold R64; omega
  · simp only [w0]; unfold R64 I64; omega
  · have : d = stD0 c := by simp [w0] at hd; exact hd
    subst this
    exact ⟨rfl, rfl, rfl, rfl, .inl rfl⟩
  · have : d = stD0 c := by simp [w0] at hd; exact hd
    subst this
    simp only [stD0]; unfold R64 I64; omega
  · rw [itm_nil]; rfl
def lastQ (w : Wq) (lst y : Int) : Int := if y % 5 < 3 ∧ (dstep w.m (dAt w.thief (y % 5).toNat)).2.out = 1 then (dstep w.m (dAt w.thief (y % 5).toNat)).2.x else lst
structure Qs where
  w : Wq
  a : Bool
  b : Bool
  lst : Int
def nextQ (q : Qs) (y : Int) : Qs := ⟨stepQ q.w y, nilA q.w q.a y, nilB q.w q.b y, lastQ q.w q.lst y⟩
def qN (c : Int) (l : List Int) : Nat → Qs
  | 0 => ⟨w0 c, true, true, 0⟩
  | k + 1 => nextQ (qN c l k) (at0 l k)
theorem q_step {c : Int} {q : Qs} {n : Nat} {t b : Int} {s : List Int} {E : Int} {H : List Int} (h : QI c q.w q.a q.b n q.lst t b s E H) (hn : n ≤ 900) {y : Int} (hy : 0 ≤ y) :
    ∃ t' b' s' E' H', QI c (nextQ q y).w (nextQ q y).a (nextQ q y).b (n + 1) (nextQ q y).lst t' b' s' E' H' := by
  by_cases h3 : y % 5 < 3
  · have e : stepQ q.w y = stealQ q.w (y % 5).toNat := by unfold stepQ; rw [if_pos h3]
    have e2 : nilA q.w q.a y = q.a := by unfold nilA; rw [if_pos h3]
    have e3 : nilB q.w q.b y = (q.b && decide ((dstep q.w.m (dAt q.w.thief (y % 5).toNat)).2.out ≠ 1)) := by unfold nilB; rw [if_pos h3]
    obtain ⟨t', lst', hq, hl⟩ := qi_steal h hn (k := (y % 5).toNat) (by omega)
    have e4 : lastQ q.w q.lst y = lst' := by
      unfold lastQ
      rcases hl with ⟨h1, _, h4⟩ | ⟨h1, h2, _⟩
      · rw [if_neg (fun g => h1 g.2), h4]
      · rw [if_pos ⟨h3, h1⟩, h2]
    refine ⟨t', b, s, E, H, ?_⟩
    simp only [nextQ, e, e2, e3, e4]
    exact hq
  · obtain ⟨t', b', s', E', H', hq⟩ := qi_own h hn h3
    refine ⟨t', b', s', E', H', ?_⟩
    have e4 : lastQ q.w q.lst y = q.lst := by unfold lastQ; rw [if_neg (fun g => h3 g.1)]
    simp only [nextQ, e4]
    exact hq
theorem qN_inv {c : Int} (hc : 1 ≤ c ∧ c ≤ 4) {l : List Int} (hl : ∀ n ∈ l, R8 n) : ∀ k : Nat, k ≤ 900 → k ≤ l.length → ∃ t b s E H, QI c (qN c l k).w (qN c l k).a (qN c l k).b k (qN c l k).lst t b s E H
  | 0, _, _ => ⟨1, 1, _, 1, [], qi_0 hc⟩
  | k + 1, h, h2 => by
    obtain ⟨t, b, s, E, H, hq⟩ := qN_inv hc hl k (by omega) (by omega)
    exact q_step hq (by omega) (hl _ (at0_mem (by simp; omega))).1
/-- items -/
theorem itN_itR {c t b : Int} {s : List Int} (hc : 1 ≤ c ∧ c ≤ 4) (hs : (s.length : Int) = c) (ht : 0 ≤ t ∧ t ≤ 1000) (hI : ∀ i, t ≤ i → i < t + 1000 → I64 (sl s c i) ∨ True) : ∀ k : Nat, k ≤ 1000 → (∀ i, t ≤ i → i < t + k → I64 (sl s c i)) → itN (t :: b :: s) 0 c t k = itR s c t k
  | 0, _, _ => rfl
  | k + 1, hk, h => by
    rw [itN, itR, itN_itR hc hs ht hI k (by omega) fun i h1 h2 => h i h1 (by omega), wu_sm ⟨by omega, by omega⟩, ld_s hc hs (by omega)]
    have := h (t + k) (by omega) (by omega)
    unfold I64 at this
    rw [wi_sm ⟨by omega, by omega⟩]
theorem minI_c {c : Int} (hc : 1 ≤ c ∧ c ≤ 4) : minI (wu (maxI c 1)) 64 = c := by rw [sz_c hc, minI_def, if_neg (by omega)]
theorem itemsE_q {c t b E : Int} {s : List Int} {p : Bool} (hc : 1 ≤ c ∧ c ≤ 4) (hs : (s.length : Int) = c) (ht : 1 ≤ t ∧ t ≤ E ∧ E - t ≤ c ∧ E ≤ 1000) (hb : 0 ≤ b) (he : (p = true ∧ E = b + 1) ∨ (p = false ∧ E = b) ∨ (p = false ∧ t = E ∧ b < t)) (hI : ∀ i, t ≤ i → i < E → 1 ≤ sl s c i ∧ sl s c i < 1000) :
    itemsE (t :: b :: s) 0 c p = itm s c t E := by
  have key : ∀ e : Int, 0 ≤ e ∧ e ≤ 1000 → (e = E ∨ (t = E ∧ e < t)) → (if noItems t e c = true then [] else itN (t :: b :: s) 0 c t (wu (e - t)).toNat) = itm s c t E := by
    intro e he0 he
    have ha := abv (a := e) (b := t) ⟨by omega, by omega⟩ ⟨by omega, by omega⟩
    by_cases hlt : t < e
    · have e1 : e = E := by omega
      subst e1
      have : noItems t e c = false := by
        unfold noItems
        rw [ha, decide_eq_true hlt, minI_c hc, wu_sm ⟨by omega, by omega⟩]
        simp [lt_f]; omega
      rw [this, if_neg (by simp), wu_sm ⟨by omega, by omega⟩, itN_itR hc hs ⟨by omega, by omega⟩ (fun _ _ _ => .inr trivial) _ (by omega)]
      · rfl
      · intro i h1 h2
        have := hI i h1 (by omega)
        unfold I64; omega
    · have : noItems t e c = true := by
        unfold noItems
        rw [ha, decide_eq_false hlt]; rfl
      rw [this, if_pos rfl]
      have : t = E := by omega
      rw [this, itm_nil]
  unfold itemsE
  rw [ld_t, ld_b]
  rcases he with ⟨rfl, h1⟩ | ⟨rfl, h1⟩ | ⟨rfl, h1, h2⟩
  · have : wu (b + 1) = b + 1 := wu_sm ⟨by omega, by omega⟩
    simp only [if_true, this]
    exact key _ ⟨by omega, by omega⟩ (.inl h1.symm)
  · simp only [if_neg Bool.false_ne_true]
    exact key _ ⟨by omega, by omega⟩ (.inl h1.symm)
  · simp only [if_neg Bool.false_ne_true]
    exact key _ ⟨by omega, by omega⟩ (.inr ⟨h1, h2⟩)
theorem pops_q {c t b nx E : Int} {s : List Int} {o : DM} {H : List Int} (h : OwI c t b nx s o E H) (ht : 1 ≤ t ∧ t ≤ E ∧ E ≤ 1000) :
    (popsB o.kind o.pc o.b o.t o.out = true ∧ E = b + 1) ∨ (popsB o.kind o.pc o.b o.t o.out = false ∧ E = b) ∨ (popsB o.kind o.pc o.b o.t o.out = false ∧ t = E ∧ b < t) := by
  have hb := own_b h
  have hw : wu b = b := wu_sm ⟨by omega, by omega⟩
  have e1 : b + 1 - 1 = b := by omega
  cases h with
  | idle _ h => right; left; exact ⟨by simp [popsB, h], rfl⟩
  | p0 B T x h hi => right; left; exact ⟨by simp [popsB], rfl⟩
  | p1 T x h hi => right; left; exact ⟨by simp [popsB], rfl⟩
  | p2 T x h hi hr => right; left; exact ⟨by simp [popsB], rfl⟩
  | p3 T x h hi hr hx => right; left; exact ⟨by simp [popsB], rfl⟩
  | q0 B T X => right; left; exact ⟨by simp [popsB], rfl⟩
  | q1 T X => right; left; exact ⟨by simp [popsB], rfl⟩
  | q2 T X => left; exact ⟨by simp [popsB], rfl⟩
  | q3r X h => left; exact ⟨by simp [popsB, e1, hw], rfl⟩
  | q3 T X h h2 h3 h4 => right; left; exact ⟨by simp [popsB, e1, hw]; omega, rfl⟩
  | q4 X h h2 => left; exact ⟨by simp [popsB], rfl⟩
  | q5 T X h => left; exact ⟨by simp [popsB], rfl⟩
  | q6 T X h h2 => right; right; exact ⟨by simp [popsB], by omega, by omega⟩
theorem QI.items {c : Int} {w : Wq} {na nb : Bool} {n : Nat} {lst t b : Int} {s : List Int} {E : Int} {H : List Int} (h : QI c w na nb n lst t b s E H) (hn : n ≤ 900) : itemsE w.m 0 c (popsB w.owner.kind w.owner.pc w.owner.b w.owner.t w.owner.out) = itm s c t E := by
  have ht := h.t1
  have hx := h.nx
  have hl := h.l0
  have hb := own_b h.own
  rw [h.m]
  exact itemsE_q h.c1 h.sln ⟨ht.1, ht.2.1, ht.2.2.1, by omega⟩ (by omega) (pops_q h.own ⟨ht.1, ht.2.1, by omega⟩) fun i h1 h2 => by have := h.it i h1 h2; omega
end Go.Nx
