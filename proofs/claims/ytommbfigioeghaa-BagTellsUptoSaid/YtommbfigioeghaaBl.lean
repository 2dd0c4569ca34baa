/-
  BAGS: LESS.
-/
import Derived.Test.YtommbfigioeghaaBe
set_option linter.unusedVariables false
set_option linter.unusedSimpArgs false
set_option maxRecDepth 200000
set_option maxHeartbeats 4000000
namespace Go.Nx
open Go.RowKit Go.Proofs

/-! plainly -/
def decG (g : Int → Nat) (x : Int) : Int → Nat := fun y => if y = x then g y - 1 else g y
/-- what is kept of a front, what was dropped, what is still to be dropped -/
def stG (g : Int → Nat) (l : List Int) : Nat → (List Int × List Int) × (Int → Nat)
  | 0 => (([], []), g)
  | k + 1 => if (stG g l k).2 (at0 l k) = 0 then (((stG g l k).1.1 ++ [at0 l k], (stG g l k).1.2), (stG g l k).2) else (((stG g l k).1.1, (stG g l k).1.2 ++ [at0 l k]), decG (stG g l k).2 (at0 l k))
theorem cnt1_ne {x o : Int} (h : x ≠ o) : [x].count o = 0 := by
  rw [List.count_eq_zero]
  simp
  exact fun e => h e.symm
theorem stG_cnt (g : Int → Nat) (l : List Int) (o : Int) : ∀ k, k ≤ l.length → (stG g l k).1.1.count o + (stG g l k).1.2.count o = (l.take k).count o ∧ (stG g l k).1.2.count o + (stG g l k).2 o = g o ∧ ((stG g l k).1.1.count o = 0 ∨ (stG g l k).2 o = 0)
  | 0, _ => by simp [stG]
  | k + 1, h => by
    obtain ⟨h1, h2, h3⟩ := stG_cnt g l o k (by omega)
    have e : l.take (k + 1) = l.take k ++ [at0 l k] := by
      rw [List.take_add_one]; simp [at0, show k < l.length by omega]
    rw [e, List.count_append, stG]
    by_cases hx : (stG g l k).2 (at0 l k) = 0
    · rw [if_pos hx]
      simp only [List.count_append]
      by_cases ho : at0 l k = o
      · rw [ho] at hx ⊢
        simp; omega
      · have c0 := cnt1_ne ho
        omega
    · rw [if_neg hx]
      simp only [List.count_append, decG]
      by_cases ho : at0 l k = o
      · rw [ho] at hx ⊢
        simp; omega
      · have c0 := cnt1_ne ho
        have ho' : ¬ o = at0 l k := fun e => ho e.symm
        simp only [if_neg ho']; omega
theorem stG_len (g : Int → Nat) (l : List Int) : ∀ k, (stG g l k).1.1.length + (stG g l k).1.2.length = k
  | 0 => rfl
  | k + 1 => by
    have := stG_len g l k
    rw [stG]
    split <;> simp <;> omega
theorem stG_sub (g : Int → Nat) (l : List Int) : ∀ k, k ≤ l.length → (stG g l k).1.1.Sublist (l.take k)
  | 0, _ => by simp [stG]
  | k + 1, h => by
    have e : l.take (k + 1) = l.take k ++ [at0 l k] := by
      rw [List.take_add_one]; simp [at0, show k < l.length by omega]
    have ih := stG_sub g l k (by omega)
    rw [e, stG]
    split
    · exact ih.append (List.Sublist.refl _)
    · exact ih.trans (List.sublist_append_left _ _)
theorem stG_no (g : Int → Nat) (l : List Int) : ∀ k, k ≤ l.length → (∀ j, j < k → g (at0 l j) = 0) → (stG g l k).1.1 = l.take k ∧ (stG g l k).2 = g
  | 0, _, _ => ⟨rfl, rfl⟩
  | k + 1, h, hn => by
    obtain ⟨h1, h2⟩ := stG_no g l k (by omega) fun j hj => hn j (by omega)
    rw [stG, if_pos (by rw [h2]; exact hn k (by omega)), h1, h2, List.take_add_one]
    simp [at0, show k < l.length by omega]
theorem perm_of_le : ∀ {D b : List Int}, (∀ o, D.count o ≤ b.count o) → b.length ≤ D.length → D.Perm b
  | [], b, _, hl => by
    have : b = [] := List.eq_nil_of_length_eq_zero (by simpa using hl)
    rw [this]
  | x :: r, b, h, hl => by
    have hx : x ∈ b := by
      have := h x
      rw [List.count_cons_self] at this
      exact List.count_pos_iff.1 (by omega)
    have hp := List.perm_cons_erase hx
    refine (List.Perm.cons x (perm_of_le (D := r) (b := b.erase x) (fun o => ?_) ?_)).trans hp.symm
    · have h1 := h o
      have h2 := hp.count_eq o
      rw [List.count_cons] at h1 h2
      omega
    · have := hp.length_eq
      simp at this hl
      omega
def lessL (a b : List Int) : List Int := (stG (fun x => b.count x) (srt a) a.length).1.1
def lessD (a b : List Int) : List Int := (stG (fun x => b.count x) (srt a) a.length).1.2
theorem less_count (a b : List Int) (o : Int) : (lessL a b).count o = a.count o - b.count o ∧ (lessD a b).count o = min (a.count o) (b.count o) := by
  have hl : (srt a).length = a.length := srt_len a
  obtain ⟨h1, h2, h3⟩ := stG_cnt (fun x => b.count x) (srt a) o a.length (by omega)
  rw [List.take_of_length_le (by omega), srt_count] at h1
  unfold lessL lessD
  omega
theorem less_len (a b : List Int) : (lessL a b).length + (lessD a b).length = a.length := stG_len _ _ _
theorem less_sorted (a b : List Int) : (lessL a b).Pairwise (· ≤ ·) := by
  have hl : (srt a).length = a.length := srt_len a
  have h := stG_sub (fun x => b.count x) (srt a) a.length (by omega)
  rw [List.take_of_length_le (by omega)] at h
  exact (srt_sorted a).sublist h
def lessB (a b : List Int) : Bool := decide ((lessL a b).length + b.length = a.length)
theorem lessB_iff (a b : List Int) : lessB a b = true ↔ ∀ o, b.count o ≤ a.count o := by
  unfold lessB
  rw [decide_eq_true_iff]
  have hl := less_len a b
  constructor
  · intro h o
    have hp : (lessD a b).Perm b := perm_of_le (fun o => by have := (less_count a b o).2; omega) (by omega)
    have h1 := hp.count_eq o
    have h2 := (less_count a b o).2
    omega
  · intro h
    have hp : (lessD a b).Perm b := perm_count.2 fun o => by
      have := (less_count a b o).2; have := h o; omega
    have := hp.length_eq
    omega
def lessI (a b : List Int) : List Int := if lessB a b = true then lessL a b else []
/-! maps of numbers -/
theorem miB_put {es : List (T × V)} (h : miB es = true) (z n : Int) : miB (putMi es z n) = true ∧ ∀ y, getMi (putMi es z n) y = if y = z then n else getMi es y := by
  induction es with
  | nil =>
    refine ⟨rfl, fun y => ?_⟩
    simp only [putMi, getMi]
    cases e : eqI z y with
    | true => rw [eq_t] at e; simp [e]
    | false => rw [eq_f] at e; have : ¬ y = z := fun g => e g.symm; simp [this]
  | cons p r ih =>
    obtain ⟨kk, vv⟩ := p
    have hk : ∃ a m, kk = .int .i64 a ∧ vv = .t (.int .i64 m) ∧ miB r = true := by
      unfold miB at h
      split at h
      · rename_i a m heq
        simp only [Prod.mk.injEq] at heq
        obtain ⟨rfl, rfl⟩ := heq
        exact ⟨_, _, rfl, rfl, h⟩
      · cases h
    obtain ⟨a, m, rfl, rfl, hr⟩ := hk
    obtain ⟨ih1, ih2⟩ := ih hr
    simp only [putMi]
    cases e : eqI a z with
    | true =>
      rw [eq_t] at e
      subst e
      refine ⟨by simp only [miB]; exact hr, fun y => ?_⟩
      simp only [getMi]
      cases e : eqI a y with
      | true => rw [eq_t] at e; simp [e]
      | false => rw [eq_f] at e; have : ¬ y = a := fun g => e g.symm; simp [this]
    | false =>
      rw [eq_f] at e
      refine ⟨by simp only [miB]; exact ih1, fun y => ?_⟩
      simp only [getMi]
      cases e2 : eqI a y with
      | true => rw [eq_t] at e2; subst e2; simp [e]
      | false => simp only; exact ih2 y
def GR (es : List (T × V)) (g : Int → Nat) : Prop := miB es = true ∧ ∀ z, getMi es z = (g z : Int)
theorem gr_nil : GR [] (fun _ => 0) := ⟨rfl, fun _ => rfl⟩
theorem gr_put {es : List (T × V)} {g g' : Int → Nat} (h : GR es g) {z n : Int} (h1 : (g' z : Int) = n) (h2 : ∀ y, y ≠ z → g' y = g y) : GR (putMi es z n) g' := by
  obtain ⟨k1, k2⟩ := miB_put h.1 z n
  refine ⟨k1, fun y => ?_⟩
  rw [k2 y]
  by_cases e : y = z
  · rw [if_pos e, e, h1]
  · rw [if_neg e, h.2 y, h2 y e]
theorem gr_dec {es : List (T × V)} {g : Int → Nat} (h : GR es g) {z : Int} (hz : g z ≠ 0) (hb : g z ≤ 17592186044416) : GR (putMi es z (IntKind.i64.wrap (getMi es z - 1))) (decG g z) := by
  have e : IntKind.i64.wrap (getMi es z - 1) = (g z : Int) - 1 := by rw [h.2 z]; exact wrap_i64 ⟨by omega, by omega⟩
  rw [e]
  refine gr_put h ?_ fun y hy => ?_
  · simp [decG]; omega
  · simp [decG, hy]
noncomputable def lL0 : List (Nat × (List T → Ans)) := lS1
noncomputable def iL0 : List (Nat × Pt) := (55, inl B0 m55) :: (48, inl S1 m48) :: (50, inl B0 m50) :: iS1
noncomputable abbrev L0 : Env := En tgl lL0 iL0
theorem env_L0 : EnvOk Try.prog L0 := (env_in (env_in (env_in env_S1 env_B0 Try.func50 low50) env_S1 Try.func48 low48) env_B0 Try.func55 low55)
def lsOwn (l : List Int) (es : List (T × V)) : Own := [(91296839, .lst 1 (is l) 0), (70, .cells [.mp 74]), (74, .map true es)]
def lsSpec (l : List Int) (es : List (T × V)) (g : Int → Nat) (z : Int) (own' : Own) : Prop :=
  (∃ k : Nat, k < l.length ∧ z = (k : Int) ∧ g (at0 l k) ≠ 0 ∧ (∀ j : Nat, j < k → g (at0 l j) = 0) ∧ own' = lsOwn l (putMi es (at0 l k) (IntKind.i64.wrap (getMi es (at0 l k) - 1)))) ∨ (z = -1 ∧ (∀ j : Nat, j < l.length → g (at0 l j) = 0) ∧ own' = lsOwn l es)
theorem inl_idxL {base : Nat} {l : List Int} {es : List (T × V)} {g : Int → Nat} (hlen : l.length ≤ 17592186044416) (hg : GR es g) {R : V → Own → Prop} (hR : ∀ z own', lsSpec l es g z own' → R (.t (.int .i64 z)) own') :
    inl L0 m77 base [.sl 91296839 0 none, .fn (.func 50) [] [.ptr 70 0]] (lsOwn l es) R := by
  obtain ⟨hmi, hg2⟩ := hg
  unfold inl lsOwn
  conv => whnf
  repeat' (first
    | (refine brK_true rfl ?_; conv => whnf)
    | (refine brK_false rfl ?_; conv => whnf)
    | (refine brK_true (by assumption) ?_; conv => whnf)
    | (refine brK_false (by assumption) ?_; conv => whnf)
    | (refine brK_true ?_ ?_; (focus (simp only [List.length_nil, fx] <;> omega)); conv => whnf)
    | (refine brK_false ?_ ?_; (focus (simp only [List.length_nil, fx] <;> omega)); conv => whnf)
    | ((refine brK_of (fun h => ?_) (fun h => ?_)) <;> (have h2 := h; (try simp only [List.length_nil, fx] at h2); conv => whnf))
    | (refine reqK_of ?_ ?_; (focus (first | decide | omega | assumption | (simp only [List.length_nil, fx] <;> omega) | (simp [keyNew, sameKey, kEq] <;> omega))); conv => whnf)
    | (refine reqK_of ?_ ?_; rotate_left; (conv => whnf); rotate_left)
    | (refine nth_us ?_ ?_ ?_; (focus (first | omega | (simp only [List.length_nil, fx] <;> omega))); (focus (first | omega | (simp only [List.length_nil, fx] <;> omega))); conv => whnf)
    | (refine nth_is ?_ ?_ ?_; (focus (first | omega | (simp only [List.length_nil, fx] <;> omega))); (focus (first | omega | (simp only [List.length_nil, fx] <;> omega))); conv => whnf)
    | (refine nth_bs ?_ ?_ ?_; (focus (first | omega | (simp only [List.length_nil, fx] <;> omega))); (focus (first | omega | (simp only [List.length_nil, fx] <;> omega))); conv => whnf))
  refine loopFn [] (fun s => [.kill 5, .kill 9, .kill 10, .kill 11, .kill 12, .kill 13, .kill 14, .kill 15, .kill 16, .kill 17, .kill 18]) (fun k : Nat => [(8, .t (.int .i64 (k : Int)))]) (fun _ => lsOwn l es) (fun k => k ≤ l.length ∧ ∀ j : Nat, j < k → g (at0 l j) = 0) (fun k => l.length - k) 0 ⟨Nat.zero_le _, fun j h => by omega⟩ ?_
  conv => whnf
  refine ⟨⟨rfl, rfl⟩, fun k hk C hC => ?_⟩
  obtain ⟨hk1, hk2⟩ := hk
  have hkn : Nat.add 0 (k : Int).toNat = k := by simp
  have hw : IntKind.i64.wrap ((k : Int) + 1) = (k : Int) + 1 := wrap_i64 ⟨by omega, by omega⟩
  conv => whnf
  repeat' (first
    | (refine brK_true rfl ?_; conv => whnf)
    | (refine brK_false rfl ?_; conv => whnf)
    | (refine brK_true (by assumption) ?_; conv => whnf)
    | (refine brK_false (by assumption) ?_; conv => whnf)
    | (refine brK_true ?_ ?_; (focus (simp only [List.length_nil, fx, hkn, hg2] <;> omega)); conv => whnf)
    | (refine brK_false ?_ ?_; (focus (simp only [List.length_nil, fx, hkn, hg2] <;> omega)); conv => whnf)
    | ((refine brK_of (fun h => ?_) (fun h => ?_)) <;> (have h2 := h; (try simp only [List.length_nil, fx, hkn, hg2] at h2); conv => whnf))
    | (refine reqK_of ?_ ?_; (focus (first | decide | omega | assumption | (simp only [List.length_nil, fx, hkn, hg2] <;> omega) | (simp [keyNew, sameKey, kEq] <;> omega))); conv => whnf)
    | (refine reqK_of ?_ ?_; rotate_left; (conv => whnf); rotate_left)
    | (refine nth_us ?_ ?_ ?_; (focus (first | omega | (simp only [List.length_nil, fx, hkn, hg2] <;> omega))); (focus (first | omega | (simp only [List.length_nil, fx, hkn, hg2] <;> omega))); conv => whnf)
    | (refine nth_is ?_ ?_ ?_; (focus (first | omega | (simp only [List.length_nil, fx, hkn, hg2] <;> omega))); (focus (first | omega | (simp only [List.length_nil, fx, hkn, hg2] <;> omega))); conv => whnf)
    | (refine nth_bs ?_ ?_ ?_; (focus (first | omega | (simp only [List.length_nil, fx, hkn, hg2] <;> omega))); (focus (first | omega | (simp only [List.length_nil, fx, hkn, hg2] <;> omega))); conv => whnf))
  · refine loopC (hC (k + 1) ⟨by omega, fun j hj => ?_⟩ (by omega)) ?_
    · rcases Nat.lt_succ_iff_lt_or_eq.1 hj with h | h
      · exact hk2 j h
      · subst h; omega
    · rw [hw, Int.natCast_succ]; rfl
  · refine hR _ _ (.inl ⟨k, by omega, rfl, by omega, hk2, ?_⟩)
    rw [hkn]; rfl
  · exact hR _ _ (.inr ⟨rfl, fun j hj => hk2 j (by omega), rfl⟩)
theorem inl_idxL_nil {base : Nat} {es : List (T × V)} {R : V → Own → Prop} (hR : ∀ z, z = -1 → R (.t (.int .i64 z)) [(70, .cells [.mp 74]), (74, .map true es)]) :
    inl L0 m77 base [.t .nils, .fn (.func 50) [] [.ptr 70 0]] [(70, .cells [.mp 74]), (74, .map true es)] R := by
  unfold inl
  conv => whnf
  repeat' (first
    | (refine brK_true rfl ?_; conv => whnf)
    | (refine brK_false rfl ?_; conv => whnf)
    | (refine brK_true (by assumption) ?_; conv => whnf)
    | (refine brK_false (by assumption) ?_; conv => whnf)
    | (refine brK_true ?_ ?_; (focus (simp only [List.length_nil, fx] <;> omega)); conv => whnf)
    | (refine brK_false ?_ ?_; (focus (simp only [List.length_nil, fx] <;> omega)); conv => whnf)
    | ((refine brK_of (fun h => ?_) (fun h => ?_)) <;> (have h2 := h; (try simp only [List.length_nil, fx] at h2); conv => whnf))
    | (refine reqK_of ?_ ?_; (focus (first | decide | omega | assumption | (simp only [List.length_nil, fx] <;> omega) | (simp [keyNew, sameKey, kEq] <;> omega))); conv => whnf)
    | (refine reqK_of ?_ ?_; rotate_left; (conv => whnf); rotate_left)
    | (refine nth_us ?_ ?_ ?_; (focus (first | omega | (simp only [List.length_nil, fx] <;> omega))); (focus (first | omega | (simp only [List.length_nil, fx] <;> omega))); conv => whnf)
    | (refine nth_is ?_ ?_ ?_; (focus (first | omega | (simp only [List.length_nil, fx] <;> omega))); (focus (first | omega | (simp only [List.length_nil, fx] <;> omega))); conv => whnf)
    | (refine nth_bs ?_ ?_ ?_; (focus (first | omega | (simp only [List.length_nil, fx] <;> omega))); (focus (first | omega | (simp only [List.length_nil, fx] <;> omega))); conv => whnf))
  refine loopFn [] (fun s => [.kill 5, .kill 9, .kill 10, .kill 11, .kill 12, .kill 13, .kill 14, .kill 15, .kill 16, .kill 17, .kill 18]) (fun k : Int => [(8, .t (.int .i64 k))]) (fun _ => [(70, .cells [.mp 74]), (74, .map true es)]) (fun k => k = 0) (fun k => 0) 0 rfl ?_
  conv => whnf
  refine ⟨⟨rfl, rfl⟩, fun k hk C hC => ?_⟩
  conv => whnf
  repeat' (first
    | (refine brK_true rfl ?_; conv => whnf)
    | (refine brK_false rfl ?_; conv => whnf)
    | (refine brK_true (by assumption) ?_; conv => whnf)
    | (refine brK_false (by assumption) ?_; conv => whnf)
    | (refine brK_true ?_ ?_; (focus (simp only [List.length_nil, fx] <;> omega)); conv => whnf)
    | (refine brK_false ?_ ?_; (focus (simp only [List.length_nil, fx] <;> omega)); conv => whnf)
    | ((refine brK_of (fun h => ?_) (fun h => ?_)) <;> (have h2 := h; (try simp only [List.length_nil, fx] at h2); conv => whnf))
    | (refine reqK_of ?_ ?_; (focus (first | decide | omega | assumption | (simp only [List.length_nil, fx] <;> omega) | (simp [keyNew, sameKey, kEq] <;> omega))); conv => whnf)
    | (refine reqK_of ?_ ?_; rotate_left; (conv => whnf); rotate_left)
    | (refine nth_us ?_ ?_ ?_; (focus (first | omega | (simp only [List.length_nil, fx] <;> omega))); (focus (first | omega | (simp only [List.length_nil, fx] <;> omega))); conv => whnf)
    | (refine nth_is ?_ ?_ ?_; (focus (first | omega | (simp only [List.length_nil, fx] <;> omega))); (focus (first | omega | (simp only [List.length_nil, fx] <;> omega))); conv => whnf)
    | (refine nth_bs ?_ ?_ ?_; (focus (first | omega | (simp only [List.length_nil, fx] <;> omega))); (focus (first | omega | (simp only [List.length_nil, fx] <;> omega))); conv => whnf))
  exact hR _ rfl
def ptIdxL : Pt := fun _ args own R => (∃ es, args = [.t .nils, .fn (.func 50) [] [.ptr 70 0]] ∧ own = [(70, .cells [.mp 74]), (74, .map true es)] ∧ ∀ z, z = -1 → R (.t (.int .i64 z)) own) ∨ ∃ (l : List Int) (es : List (T × V)) (g : Int → Nat), args = [.sl 91296839 0 none, .fn (.func 50) [] [.ptr 70 0]] ∧ own = lsOwn l es ∧ l.length ≤ 17592186044416 ∧ GR es g ∧ ∀ z own', lsSpec l es g z own' → R (.t (.int .i64 z)) own'
theorem ptIdxL_ok (base : Nat) (args : List V) (own : Own) (R : V → Own → Prop) (h : ptIdxL base args own R) : FnV Try.prog tgl 77 args own R := by
  rcases h with ⟨es, rfl, rfl, h⟩ | ⟨l, es, g, rfl, rfl, h1, h2, h3⟩
  · exact inl_ok (base := base) env_L0 Try.func77 low77 (inl_idxL_nil h)
  exact inl_ok (base := base) env_L0 Try.func77 low77 (inl_idxL h1 h2 h3)
noncomputable def lL1 : List (Nat × (List T → Ans)) := lL0
noncomputable def iL1 : List (Nat × Pt) := (77, ptIdxL) :: iL0
noncomputable abbrev L1 : Env := En tgl lL1 iL1
theorem env_L1 : EnvOk Try.prog L1 := env_ptB env_L0 ptIdxL_ok
theorem inl_delL {l : List Int} {es : List (T × V)} {g : Int → Nat} (hlen : l.length ≤ 17592186044416) (hg : GR es g) (hgb : ∀ z, g z ≤ 17592186044416) {R : V → Own → Prop}
    (hR0 : (stG g l l.length).1.1 = l → R (.sl 91296839 0 none) (lsOwn l es)) (hR : ∀ (ts : List Int) (z : Int) (k : Nat) (es' : List (T × V)), z = (k : Int) → k ≤ ts.length → ts.take k = (stG g l l.length).1.1 → R (.sl 91296839 0 (some z.toNat)) (lsOwn ts es')) :
    inl L1 m49 91136 [.sl 91296839 0 none, .fn (.func 50) [] [.ptr 70 0]] (lsOwn l es) R := by
  unfold inl
  conv => whnf
  repeat' (first
    | (refine brK_true rfl ?_; conv => whnf)
    | (refine brK_false rfl ?_; conv => whnf)
    | (refine brK_true (by assumption) ?_; conv => whnf)
    | (refine brK_false (by assumption) ?_; conv => whnf)
    | (refine brK_true ?_ ?_; (focus (simp only [List.length_nil, fx] <;> omega)); conv => whnf)
    | (refine brK_false ?_ ?_; (focus (simp only [List.length_nil, fx] <;> omega)); conv => whnf)
    | ((refine brK_of (fun h => ?_) (fun h => ?_)) <;> (have h2 := h; (try simp only [List.length_nil, fx] at h2); conv => whnf))
    | (refine reqK_of ?_ ?_; (focus (first | decide | omega | assumption | (simp only [List.length_nil, fx] <;> omega) | (simp [keyNew, sameKey, kEq] <;> omega))); conv => whnf)
    | (refine reqK_of ?_ ?_; rotate_left; (conv => whnf); rotate_left)
    | (refine nth_us ?_ ?_ ?_; (focus (first | omega | (simp only [List.length_nil, fx] <;> omega))); (focus (first | omega | (simp only [List.length_nil, fx] <;> omega))); conv => whnf)
    | (refine nth_is ?_ ?_ ?_; (focus (first | omega | (simp only [List.length_nil, fx] <;> omega))); (focus (first | omega | (simp only [List.length_nil, fx] <;> omega))); conv => whnf)
    | (refine nth_bs ?_ ?_ ?_; (focus (first | omega | (simp only [List.length_nil, fx] <;> omega))); (focus (first | omega | (simp only [List.length_nil, fx] <;> omega))); conv => whnf))
  refine .inr ⟨l, es, g, rfl, rfl, hlen, hg, fun z own' hz => ?_⟩
  rcases hz with ⟨k, hk, hz, hko, hkn, rfl⟩ | ⟨hz, hno, rfl⟩
  · have hst1 : (stG g l k).1.1 = l.take k ∧ (stG g l k).2 = g := stG_no g l k (by omega) hkn
    have hst : (stG g l (k + 1)).1.1 = l.take k ∧ (stG g l (k + 1)).2 = decG g (at0 l k) := by
      rw [stG, if_neg (by rw [hst1.2]; exact hko)]
      exact ⟨hst1.1, by simp only [hst1.2]⟩
    have hgr1 := gr_dec hg hko (hgb _)
    generalize putMi es (at0 l k) (IntKind.i64.wrap (getMi es (at0 l k) - 1)) = es1 at hgr1 ⊢
    have htk : (l.take k).length = k := by rw [List.length_take]; omega
    have hwz : IntKind.i64.wrap (z + 1) = ((k + 1 : Nat) : Int) := by rw [hz, Int.natCast_succ]; exact wrap_i64 ⟨by omega, by omega⟩
    have hdr : l.take k ++ l.drop k = l := List.take_append_drop k l
    conv => whnf
    repeat' (first
      | (refine brK_true rfl ?_; conv => whnf)
      | (refine brK_false rfl ?_; conv => whnf)
      | (refine brK_true (by assumption) ?_; conv => whnf)
      | (refine brK_false (by assumption) ?_; conv => whnf)
      | (refine brK_true ?_ ?_; (focus (simp only [List.length_nil, fx] <;> omega)); conv => whnf)
      | (refine brK_false ?_ ?_; (focus (simp only [List.length_nil, fx] <;> omega)); conv => whnf)
      | ((refine brK_of (fun h => ?_) (fun h => ?_)) <;> (have h2 := h; (try simp only [List.length_nil, fx] at h2); conv => whnf))
      | (refine reqK_of ?_ ?_; (focus (first | decide | omega | assumption | (simp only [List.length_nil, fx] <;> omega) | (simp [keyNew, sameKey, kEq] <;> omega))); conv => whnf)
      | (refine reqK_of ?_ ?_; rotate_left; (conv => whnf); rotate_left)
      | (refine nth_us ?_ ?_ ?_; (focus (first | omega | (simp only [List.length_nil, fx] <;> omega))); (focus (first | omega | (simp only [List.length_nil, fx] <;> omega))); conv => whnf)
      | (refine nth_is ?_ ?_ ?_; (focus (first | omega | (simp only [List.length_nil, fx] <;> omega))); (focus (first | omega | (simp only [List.length_nil, fx] <;> omega))); conv => whnf)
      | (refine nth_bs ?_ ?_ ?_; (focus (first | omega | (simp only [List.length_nil, fx] <;> omega))); (focus (first | omega | (simp only [List.length_nil, fx] <;> omega))); conv => whnf))
    refine loopFn [] (fun s => [.kill 7, .kill 16, .kill 17, .kill 18, .kill 19, .kill 20, .kill 21, .kill 22, .kill 23, .kill 24, .kill 25, .kill 26, .kill 27, .kill 28, .kill 29, .kill 30, .kill 31, .kill 32, .kill 33, .kill 34, .kill 35]) (fun p : Nat × List (T × V) => [(5, .t (.int .i64 (((stG g l p.1).1.1.length : Nat) : Int))), (6, .t (.int .i64 (p.1 : Int)))]) (fun p => lsOwn ((stG g l p.1).1.1 ++ l.drop (stG g l p.1).1.1.length) p.2) (fun p => (k + 1 ≤ p.1 ∧ p.1 ≤ l.length) ∧ GR p.2 (stG g l p.1).2) (fun p => l.length - p.1) (k + 1, es1) ⟨⟨Nat.le_refl _, hk⟩, by rw [hst.2]; exact hgr1⟩ ?_
    conv => whnf
    refine ⟨⟨?_, ?_⟩, fun p hp C hC => ?_⟩
    · show _ = setL _ [(5, .t (.int .i64 (((stG g l (k + 1)).1.1.length : Nat) : Int))), (6, .t (.int .i64 ((k + 1 : Nat) : Int)))]
      rw [hst.1, htk, ← hwz, ← hz]; rfl
    · show _ = lsOwn ((stG g l (k + 1)).1.1 ++ l.drop (stG g l (k + 1)).1.1.length) es1
      rw [hst.1, htk, hdr]
    obtain ⟨j, es2⟩ := p
    obtain ⟨⟨hj1, hj2⟩, hgr⟩ := hp
    simp only at hj1 hj2 hgr
    have hl1 := stG_len g l j
    have hwj : IntKind.i64.wrap ((j : Int) + 1) = (j : Int) + 1 := wrap_i64 ⟨by omega, by omega⟩
    have hC1 := hC
    clear hC
    have hnx : ∀ x, stG g l j = x → stG g l (j + 1) = if x.2 (at0 l j) = 0 then ((x.1.1 ++ [at0 l j], x.1.2), x.2) else ((x.1.1, x.1.2 ++ [at0 l j]), decG x.2 (at0 l j)) := fun x h1 => by rw [stG, h1]
    have hb2 : ∀ o, (stG g l j).2 o ≤ 17592186044416 := fun o => by
      have := (stG_cnt g l o j hj2).2.1; have := hgb o; omega
    dsimp only
    generalize hKm : stG g l j = Km at hl1 hnx hgr hb2 ⊢
    obtain ⟨⟨K, D⟩, m⟩ := Km
    simp only at hl1 hgr hb2 hnx
    have hnx1 := hnx _ rfl
    simp only at hnx1
    obtain ⟨hmi, hg2⟩ := hgr
    have hjn : ((Nat.add 0 (j : Int).toNat : Nat) : Int) = (j : Int) := by simp
    have hKn : Nat.add 0 ((K.length : Nat) : Int).toNat = K.length := by simp
    have hwK : IntKind.i64.wrap (((K.length : Nat) : Int) + 1) = ((K.length : Nat) : Int) + 1 := wrap_i64 ⟨by omega, by omega⟩
    have hlen2 : (K ++ l.drop K.length).length = l.length := by simp; omega
    have hat : at0 (K ++ l.drop K.length) j = at0 l j := at0_mid K l j (by omega)
    have hset : K.length < l.length → (is (K ++ l.drop K.length)).set (Nat.add 0 ((K.length : Nat) : Int).toNat) (T.int .i64 (at0 (K ++ l.drop K.length) ((Nat.add 0 (j : Int).toNat : Nat) : Int))) = is ((K ++ [at0 l j]) ++ l.drop (K ++ [at0 l j]).length) := fun h => by
      rw [hKn, hjn, hat]; exact set_mid K l _ h
    have hlenL : lenL (is (K ++ l.drop K.length)) (Nat.add 0 ((K.length : Nat) : Int).toNat) none = ((l.length - K.length : Nat) : Int) := by
      rw [hKn, lenL_eq]; simp only; rw [is_len, hlen2]; omega
    have hput : putL (is (K ++ l.drop K.length)) (Nat.add 0 ((K.length : Nat) : Int).toNat) (List.replicate (lenL (is (K ++ l.drop K.length)) (Nat.add 0 ((K.length : Nat) : Int).toNat) none).toNat (T.int .i64 0)) = is (K ++ List.replicate (l.length - K.length) 0) := by
      rw [hlenL, hKn, Int.toNat_natCast]; exact putL_mid K l (by omega)
    have hlK : ((K ++ [at0 l j]).length : Int) = IntKind.i64.wrap (((K.length : Nat) : Int) + 1) := by rw [hwK]; simp
    have hlj : ((j + 1 : Nat) : Int) = IntKind.i64.wrap ((j : Int) + 1) := by rw [hwj]; simp
    have hgz : ∀ z, getMi es2 z = (m z : Int) := hg2
    unfold lsOwn
    dsimp only
    conv => whnf
    repeat' (first
      | (refine brK_true rfl ?_; conv => whnf)
      | (refine brK_false rfl ?_; conv => whnf)
      | (refine brK_true (by assumption) ?_; conv => whnf)
      | (refine brK_false (by assumption) ?_; conv => whnf)
      | (refine brK_true ?_ ?_; (focus (simp only [List.length_nil, fx, hjn, hlen2, hat, hKn, hgz] <;> omega)); conv => whnf)
      | (refine brK_false ?_ ?_; (focus (simp only [List.length_nil, fx, hjn, hlen2, hat, hKn, hgz] <;> omega)); conv => whnf)
      | ((refine brK_of (fun h => ?_) (fun h => ?_)) <;> (have h2 := h; (try simp only [List.length_nil, fx, hjn, hlen2, hat, hKn, hgz] at h2); conv => whnf))
      | (refine reqK_of ?_ ?_; (focus (first | decide | omega | assumption | (simp only [List.length_nil, fx, hjn, hlen2, hat, hKn, hgz] <;> omega) | (simp [keyNew, sameKey, kEq] <;> omega))); conv => whnf)
      | (refine reqK_of ?_ ?_; rotate_left; (conv => whnf); rotate_left)
      | (refine nth_us ?_ ?_ ?_; (focus (first | omega | (simp only [List.length_nil, fx, hjn, hlen2, hat, hKn, hgz] <;> omega))); (focus (first | omega | (simp only [List.length_nil, fx, hjn, hlen2, hat, hKn, hgz] <;> omega))); conv => whnf)
      | (refine nth_is ?_ ?_ ?_; (focus (first | omega | (simp only [List.length_nil, fx, hjn, hlen2, hat, hKn, hgz] <;> omega))); (focus (first | omega | (simp only [List.length_nil, fx, hjn, hlen2, hat, hKn, hgz] <;> omega))); conv => whnf)
      | (refine nth_bs ?_ ?_ ?_; (focus (first | omega | (simp only [List.length_nil, fx, hjn, hlen2, hat, hKn, hgz] <;> omega))); (focus (first | omega | (simp only [List.length_nil, fx, hjn, hlen2, hat, hKn, hgz] <;> omega))); conv => whnf))
    · have hx0 : m (at0 l j) = 0 := by omega
      rw [if_pos hx0] at hnx1
      refine loopC (hC1 (j + 1, es2) ⟨⟨by simp only; omega, by simp only; omega⟩, by rw [hnx1]; exact ⟨hmi, hg2⟩⟩ (by simp only; omega)) ?_
      dsimp only
      rw [hnx1]
      dsimp only
      unfold lsOwn
      rw [← hset (by omega), hlK, hlj]
      rfl
    · have hx0 : m (at0 l j) ≠ 0 := by omega
      rw [if_neg hx0] at hnx1
      have hgd := gr_dec (es := es2) (g := m) ⟨hmi, hg2⟩ hx0 (hb2 _)
      refine loopC (hC1 (j + 1, putMi es2 (at0 l j) (IntKind.i64.wrap (getMi es2 (at0 l j) - 1))) ⟨⟨by simp only; omega, by simp only; omega⟩, by rw [hnx1]; exact hgd⟩ (by simp only; omega)) ?_
      dsimp only
      rw [hnx1]
      dsimp only
      rw [hlj, hjn, hat]
      rfl
    · show (0 : Int) ≤ ((K.length : Nat) : Int) ∧ ((K.length : Nat) : Int) ≤ lenL (putL (is (K ++ l.drop K.length)) (Nat.add 0 ((K.length : Nat) : Int).toNat) (List.replicate (lenL (is (K ++ l.drop K.length)) (Nat.add 0 ((K.length : Nat) : Int).toNat) none).toNat (T.int .i64 0))) 0 none
      rw [hput]
      refine ⟨by omega, ?_⟩
      show _ ≤ (((is (K ++ List.replicate (l.length - K.length) 0)).length : Nat) : Int)
      rw [is_len, List.length_append]; omega
    · have hjl : j = l.length := by omega
      have hKd : K = (stG g l l.length).1.1 := by rw [← hjl, hKm]
      show R (.sl 91296839 0 (some ((K.length : Nat) : Int).toNat)) [(91296839, .lst 1 (putL (is (K ++ l.drop K.length)) (Nat.add 0 ((K.length : Nat) : Int).toNat) (List.replicate (lenL (is (K ++ l.drop K.length)) (Nat.add 0 ((K.length : Nat) : Int).toNat) none).toNat (T.int .i64 0))) 0), (70, .cells [.mp 74]), (74, .map true es2)]
      rw [hput]
      exact hR _ _ K.length _ rfl (by simp) (by rw [List.take_left', ← hKd]; rfl)
  · conv => whnf
    repeat' (first
      | (refine brK_true rfl ?_; conv => whnf)
      | (refine brK_false rfl ?_; conv => whnf)
      | (refine brK_true (by assumption) ?_; conv => whnf)
      | (refine brK_false (by assumption) ?_; conv => whnf)
      | (refine brK_true ?_ ?_; (focus (simp only [List.length_nil, fx] <;> omega)); conv => whnf)
      | (refine brK_false ?_ ?_; (focus (simp only [List.length_nil, fx] <;> omega)); conv => whnf)
      | ((refine brK_of (fun h => ?_) (fun h => ?_)) <;> (have h2 := h; (try simp only [List.length_nil, fx] at h2); conv => whnf))
      | (refine reqK_of ?_ ?_; (focus (first | decide | omega | assumption | (simp only [List.length_nil, fx] <;> omega) | (simp [keyNew, sameKey, kEq] <;> omega))); conv => whnf)
      | (refine reqK_of ?_ ?_; rotate_left; (conv => whnf); rotate_left)
      | (refine nth_us ?_ ?_ ?_; (focus (first | omega | (simp only [List.length_nil, fx] <;> omega))); (focus (first | omega | (simp only [List.length_nil, fx] <;> omega))); conv => whnf)
      | (refine nth_is ?_ ?_ ?_; (focus (first | omega | (simp only [List.length_nil, fx] <;> omega))); (focus (first | omega | (simp only [List.length_nil, fx] <;> omega))); conv => whnf)
      | (refine nth_bs ?_ ?_ ?_; (focus (first | omega | (simp only [List.length_nil, fx] <;> omega))); (focus (first | omega | (simp only [List.length_nil, fx] <;> omega))); conv => whnf))
    exact hR0 (by rw [(stG_no g l l.length (Nat.le_refl _) fun j hj => hno j hj).1, List.take_length])
theorem inl_delL_nil {base : Nat} {es : List (T × V)} {R : V → Own → Prop} (hR : R (.t .nils) [(70, .cells [.mp 74]), (74, .map true es)]) :
    inl L1 m49 base [.t .nils, .fn (.func 50) [] [.ptr 70 0]] [(70, .cells [.mp 74]), (74, .map true es)] R := by
  unfold inl
  conv => whnf
  repeat' (first
    | (refine brK_true rfl ?_; conv => whnf)
    | (refine brK_false rfl ?_; conv => whnf)
    | (refine brK_true (by assumption) ?_; conv => whnf)
    | (refine brK_false (by assumption) ?_; conv => whnf)
    | (refine brK_true ?_ ?_; (focus (simp only [List.length_nil, fx] <;> omega)); conv => whnf)
    | (refine brK_false ?_ ?_; (focus (simp only [List.length_nil, fx] <;> omega)); conv => whnf)
    | ((refine brK_of (fun h => ?_) (fun h => ?_)) <;> (have h2 := h; (try simp only [List.length_nil, fx] at h2); conv => whnf))
    | (refine reqK_of ?_ ?_; (focus (first | decide | omega | assumption | (simp only [List.length_nil, fx] <;> omega) | (simp [keyNew, sameKey, kEq] <;> omega))); conv => whnf)
    | (refine reqK_of ?_ ?_; rotate_left; (conv => whnf); rotate_left)
    | (refine nth_us ?_ ?_ ?_; (focus (first | omega | (simp only [List.length_nil, fx] <;> omega))); (focus (first | omega | (simp only [List.length_nil, fx] <;> omega))); conv => whnf)
    | (refine nth_is ?_ ?_ ?_; (focus (first | omega | (simp only [List.length_nil, fx] <;> omega))); (focus (first | omega | (simp only [List.length_nil, fx] <;> omega))); conv => whnf)
    | (refine nth_bs ?_ ?_ ?_; (focus (first | omega | (simp only [List.length_nil, fx] <;> omega))); (focus (first | omega | (simp only [List.length_nil, fx] <;> omega))); conv => whnf))
  refine .inl ⟨es, rfl, rfl, fun z hz => ?_⟩
  conv => whnf
  repeat' (first
    | (refine brK_true rfl ?_; conv => whnf)
    | (refine brK_false rfl ?_; conv => whnf)
    | (refine brK_true (by assumption) ?_; conv => whnf)
    | (refine brK_false (by assumption) ?_; conv => whnf)
    | (refine brK_true ?_ ?_; (focus (simp only [List.length_nil, fx] <;> omega)); conv => whnf)
    | (refine brK_false ?_ ?_; (focus (simp only [List.length_nil, fx] <;> omega)); conv => whnf)
    | ((refine brK_of (fun h => ?_) (fun h => ?_)) <;> (have h2 := h; (try simp only [List.length_nil, fx] at h2); conv => whnf))
    | (refine reqK_of ?_ ?_; (focus (first | decide | omega | assumption | (simp only [List.length_nil, fx] <;> omega) | (simp [keyNew, sameKey, kEq] <;> omega))); conv => whnf)
    | (refine reqK_of ?_ ?_; rotate_left; (conv => whnf); rotate_left)
    | (refine nth_us ?_ ?_ ?_; (focus (first | omega | (simp only [List.length_nil, fx] <;> omega))); (focus (first | omega | (simp only [List.length_nil, fx] <;> omega))); conv => whnf)
    | (refine nth_is ?_ ?_ ?_; (focus (first | omega | (simp only [List.length_nil, fx] <;> omega))); (focus (first | omega | (simp only [List.length_nil, fx] <;> omega))); conv => whnf)
    | (refine nth_bs ?_ ?_ ?_; (focus (first | omega | (simp only [List.length_nil, fx] <;> omega))); (focus (first | omega | (simp only [List.length_nil, fx] <;> omega))); conv => whnf))
  exact hR
def ptDelL : Pt := fun base args own R => (∃ es, args = [.t .nils, .fn (.func 50) [] [.ptr 70 0]] ∧ own = [(70, .cells [.mp 74]), (74, .map true es)] ∧ R (.t .nils) own) ∨
  ∃ (l : List Int) (es : List (T × V)) (g : Int → Nat), base = 91136 ∧ args = [.sl 91296839 0 none, .fn (.func 50) [] [.ptr 70 0]] ∧ own = lsOwn l es ∧ l.length ≤ 17592186044416 ∧ GR es g ∧ (∀ z, g z ≤ 17592186044416) ∧ ((stG g l l.length).1.1 = l → R (.sl 91296839 0 none) (lsOwn l es)) ∧
    ∀ (ts : List Int) (z : Int) (k : Nat) (es' : List (T × V)), z = (k : Int) → k ≤ ts.length → ts.take k = (stG g l l.length).1.1 → R (.sl 91296839 0 (some z.toNat)) (lsOwn ts es')
theorem ptDelL_ok (base : Nat) (args : List V) (own : Own) (R : V → Own → Prop) (h : ptDelL base args own R) : FnV Try.prog tgl 49 args own R := by
  rcases h with ⟨es, rfl, rfl, h⟩ | ⟨l, es, g, rfl, rfl, rfl, h1, h2, h3, h4, h5⟩
  · exact inl_ok (base := base) env_L1 Try.func49 low49 (inl_delL_nil h)
  · exact inl_ok env_L1 Try.func49 low49 (inl_delL h1 h2 h3 h4 h5)
noncomputable def lL2 : List (Nat × (List T → Ans)) := lL1
noncomputable def iL2 : List (Nat × Pt) := (49, ptDelL) :: iL1
noncomputable abbrev L2 : Env := En tgl lL2 iL2
theorem env_L2 : EnvOk Try.prog L2 := env_ptB env_L1 ptDelL_ok
/-- a function may answer what means more -/
theorem fn_okR {P : Program} {Γ : Env} (hΓ : EnvOk P Γ) {f : FuncId} {fn : Func} {m : MFn} {vs : List T} {x : T} (hf : P.funcs[f]? = some fn) (hl : lowFn P fn = some m) (h : fnK Γ m vs (fun y => ∀ S w v, RelT S w y v → RelT S w x v)) : FnOk P Γ.gl f vs x := by
  obtain ⟨hnp, h⟩ := lenK_elim h
  have h3 := initK_elim (tagK_elim h)
  have main := fun (S : Cells) (w : World) (args : Array Value) (hlt : ∀ b o, S b o → b < w.heap.size) (hgl : GlOk Γ.gl S w) (hsz : args.size = vs.length) (hrel : ∀ (i : Nat) (c : T) (u : Value), vs[i]? = some c → args[i]? = some u → RelT S w c u) =>
    body_run (ρ := fun _ => ⟨0, .nilFunc⟩) (vals := args) (K := fun l st => run false (toTP 8 (oneV l) fun x => .ret (.t x)) st.own [] fun v _ _ => match v with
      | .t y => ∀ S w v, RelT S w y v → RelT S w x v
      | _ => False) hΓ hf hl (mem_nil hlt hgl _) (fun k b hk => by simp [look] at hk) (by simpa using hsz) (by simpa using hnp) (rel_ts hrel) h3
  refine ⟨enter_low hf hl, fun S w args hlt hgl hsz hrel => ?_⟩
  refine Calls.mono (main S w args hlt hgl hsz hrel).2 fun e w' he => ?_
  obtain ⟨u, l, st', S', ρ', a', rfl, hK, hr, hv⟩ := he
  obtain ⟨tm', own'⟩ := st'
  obtain ⟨y, own2, S2, log2, g1, g2, g3⟩ := toT_ok 8 _ _ _ _ _ _ _ _ _ _ _ _ _ _ hr hv hK
  have g1 : ∀ S w v, RelT S w y v → RelT S w x v := g1
  have g4 : RelT (fresh S w _) _ y u := g3.mono (fun b o hb => sup_nil g2.rel hb) (fun _ _ _ => rfl)
  exact ⟨u, rfl, g1 _ _ _ g4, below_of hr⟩
theorem more_tup2 {b : T} (sz : Nat) : ∀ S w v, RelT S w (.tup [.nils, b]) v → RelT S w (.tup [.list sz [], b]) v := by
  intro S w v h
  cases h with
  | tup cs arr hn h =>
    refine .tup _ arr hn fun i c u hc hu => ?_
    rcases i with _ | _ | i
    · simp at hc; subst hc; exact nil_list sz (h 0 .nils u rfl hu)
    · simp at hc; subst hc; exact h 1 b u rfl hu
    · simp at hc
theorem lessI_nil (b : List Int) : lessI [] b = [] := by
  unfold lessI lessL
  split <;> rfl
theorem less_len_le (a b : List Int) : (lessL a b).length ≤ a.length := by have := less_len a b; omega
theorem ok19 (xs ys : List T) (hq : (IsI xs ∧ SzB xs) ∧ (IsI ys ∧ SzB ys)) : FnOk Try.prog tgl 19 [.list 1 xs, .list 1 ys] (.tup [.list 1 (is (lessI (nums xs) (nums ys))), .bool (lessB (nums xs) (nums ys))]) := by
  obtain ⟨⟨⟨a, rfl, ha⟩, hsa⟩, ⟨b, rfl, hb⟩, hsb⟩ := hq
  have hla := sz_lenB hsa
  have hlb := sz_lenB hsb
  have hsa' : (is a).length * 8 ≤ maxBytes := hsa
  rw [nums_is, nums_is]
  refine fn_okR (Γ := L2) env_L2 Try.func19 low19 ?_
  conv => whnf
  repeat' (first
    | (refine brK_true rfl ?_; conv => whnf)
    | (refine brK_false rfl ?_; conv => whnf)
    | (refine brK_true (by assumption) ?_; conv => whnf)
    | (refine brK_false (by assumption) ?_; conv => whnf)
    | (refine brK_true ?_ ?_; (focus (simp only [List.length_nil, fx] <;> omega)); conv => whnf)
    | (refine brK_false ?_ ?_; (focus (simp only [List.length_nil, fx] <;> omega)); conv => whnf)
    | ((refine brK_of (fun h => ?_) (fun h => ?_)) <;> (have h2 := h; (try simp only [List.length_nil, fx] at h2); conv => whnf))
    | (refine reqK_of ?_ ?_; (focus (first | decide | omega | assumption | (simp only [List.length_nil, fx] <;> omega) | (simp [keyNew, sameKey, kEq] <;> omega))); conv => whnf)
    | (refine reqK_of ?_ ?_; rotate_left; (conv => whnf); rotate_left)
    | (refine nth_us ?_ ?_ ?_; (focus (first | omega | (simp only [List.length_nil, fx] <;> omega))); (focus (first | omega | (simp only [List.length_nil, fx] <;> omega))); conv => whnf)
    | (refine nth_is ?_ ?_ ?_; (focus (first | omega | (simp only [List.length_nil, fx] <;> omega))); (focus (first | omega | (simp only [List.length_nil, fx] <;> omega))); conv => whnf)
    | (refine nth_bs ?_ ?_ ?_; (focus (first | omega | (simp only [List.length_nil, fx] <;> omega))); (focus (first | omega | (simp only [List.length_nil, fx] <;> omega))); conv => whnf))
  refine loopSet [] [.kill 8, .kill 14, .kill 15, .kill 16, .kill 17, .kill 18, .kill 19, .kill 20, .kill 21] (fun p : Nat × List (T × V) => [(13, .t (.int .i64 (p.1 : Int)))]) (fun p => [(70, .cells [.mp 74]), (74, .map true p.2)]) (fun p => p.1 ≤ b.length ∧ GR p.2 (fun z => (b.take p.1).count z)) (fun p => b.length - p.1) (0, []) ⟨Nat.zero_le _, by simpa using gr_nil⟩ ?_
  conv => whnf
  refine ⟨⟨rfl, rfl⟩, fun p hp C hC => ?_⟩
  obtain ⟨k, es⟩ := p
  obtain ⟨hk, hgr⟩ := hp
  simp only at hk hgr
  have hmi := hgr.1
  have hw : IntKind.i64.wrap ((k : Int) + 1) = (k : Int) + 1 := wrap_i64 ⟨by omega, by omega⟩
  have hsl : (srt a).length = a.length := srt_len a
  conv => whnf
  repeat' (first
    | (refine brK_true rfl ?_; conv => whnf)
    | (refine brK_false rfl ?_; conv => whnf)
    | (refine brK_true (by assumption) ?_; conv => whnf)
    | (refine brK_false (by assumption) ?_; conv => whnf)
    | (refine brK_true ?_ ?_; (focus (simp only [List.length_nil, fx] <;> omega)); conv => whnf)
    | (refine brK_false ?_ ?_; (focus (simp only [List.length_nil, fx] <;> omega)); conv => whnf)
    | ((refine brK_of (fun h => ?_) (fun h => ?_)) <;> (have h2 := h; (try simp only [List.length_nil, fx] at h2); conv => whnf))
    | (refine reqK_of ?_ ?_; (focus (first | decide | omega | assumption | (simp only [List.length_nil, fx] <;> omega) | (simp [keyNew, sameKey, kEq] <;> omega))); conv => whnf)
    | (refine reqK_of ?_ ?_; rotate_left; (conv => whnf); rotate_left)
    | (refine nth_us ?_ ?_ ?_; (focus (first | omega | (simp only [List.length_nil, fx] <;> omega))); (focus (first | omega | (simp only [List.length_nil, fx] <;> omega))); conv => whnf)
    | (refine nth_is ?_ ?_ ?_; (focus (first | omega | (simp only [List.length_nil, fx] <;> omega))); (focus (first | omega | (simp only [List.length_nil, fx] <;> omega))); conv => whnf)
    | (refine nth_bs ?_ ?_ ?_; (focus (first | omega | (simp only [List.length_nil, fx] <;> omega))); (focus (first | omega | (simp only [List.length_nil, fx] <;> omega))); conv => whnf))
  · have hC1 := hC (k + 1, putMi es (at0 b k) (IntKind.i64.wrap (getMi es (at0 b k) + 1))) ⟨by omega, ?_⟩ (by simp only; omega)
    · refine loopC hC1 ?_
      rw [hw]
      dsimp only
      rw [Int.natCast_succ]
      rfl
    · have hcl := List.count_le_length (a := at0 b k) (l := b.take k)
      have htl : (b.take k).length ≤ k := by simp; omega
      have e : b.take (k + 1) = b.take k ++ [at0 b k] := by
        rw [List.take_add_one]; simp [at0, show k < b.length by omega]
      have ew : IntKind.i64.wrap (getMi es (at0 b k) + 1) = ((b.take k).count (at0 b k) : Int) + 1 := by
        rw [hgr.2]
        show IntKind.i64.wrap (((b.take k).count (at0 b k) : Int) + 1) = _
        exact wrap_i64 ⟨by omega, by omega⟩
      rw [ew]
      refine gr_put hgr ?_ fun y hy => ?_
      · simp only; rw [e, List.count_append]; simp
      · simp only; rw [e, List.count_append]
        have c0 := cnt1_ne (x := at0 b k) (o := y) (fun g => hy g.symm)
        omega
  · have hkb : b.take k = b := List.take_of_length_le (by omega)
    rw [hkb] at hgr
    have hgb : ∀ z, (fun z => b.count z) z ≤ 17592186044416 := fun z => by
      have := List.count_le_length (a := z) (l := b)
      simp only; omega
    have hLe : (stG (fun z => b.count z) (srt a) (srt a).length).1.1 = lessL a b := by rw [hsl]; rfl
    clear hC
    refine altK_of ?_ (fun hnil => ?_)
    · dsimp only
      conv => whnf
      repeat' (first
        | (refine brK_true rfl ?_; conv => whnf)
        | (refine brK_false rfl ?_; conv => whnf)
        | (refine brK_true (by assumption) ?_; conv => whnf)
        | (refine brK_false (by assumption) ?_; conv => whnf)
        | (refine brK_true ?_ ?_; (focus (simp only [List.length_nil, fx] <;> omega)); conv => whnf)
        | (refine brK_false ?_ ?_; (focus (simp only [List.length_nil, fx] <;> omega)); conv => whnf)
        | ((refine brK_of (fun h => ?_) (fun h => ?_)) <;> (have h2 := h; (try simp only [List.length_nil, fx] at h2); conv => whnf))
        | (refine reqK_of ?_ ?_; (focus (first | decide | omega | assumption | (simp only [List.length_nil, fx] <;> omega) | (simp [keyNew, sameKey, kEq] <;> omega))); conv => whnf)
        | (refine reqK_of ?_ ?_; rotate_left; (conv => whnf); rotate_left)
        | (refine nth_us ?_ ?_ ?_; (focus (first | omega | (simp only [List.length_nil, fx] <;> omega))); (focus (first | omega | (simp only [List.length_nil, fx] <;> omega))); conv => whnf)
        | (refine nth_is ?_ ?_ ?_; (focus (first | omega | (simp only [List.length_nil, fx] <;> omega))); (focus (first | omega | (simp only [List.length_nil, fx] <;> omega))); conv => whnf)
        | (refine nth_bs ?_ ?_ ?_; (focus (first | omega | (simp only [List.length_nil, fx] <;> omega))); (focus (first | omega | (simp only [List.length_nil, fx] <;> omega))); conv => whnf))
      refine .inl ⟨_, a, rfl, rfl, by omega, ?_⟩
      dsimp only
      conv => whnf
      repeat' (first
        | (refine brK_true rfl ?_; conv => whnf)
        | (refine brK_false rfl ?_; conv => whnf)
        | (refine brK_true (by assumption) ?_; conv => whnf)
        | (refine brK_false (by assumption) ?_; conv => whnf)
        | (refine brK_true ?_ ?_; (focus (simp only [List.length_nil, fx, subL_00] <;> omega)); conv => whnf)
        | (refine brK_false ?_ ?_; (focus (simp only [List.length_nil, fx, subL_00] <;> omega)); conv => whnf)
        | ((refine brK_of (fun h => ?_) (fun h => ?_)) <;> (have h2 := h; (try simp only [List.length_nil, fx, subL_00] at h2); conv => whnf))
        | (refine reqK_of ?_ ?_; (focus (first | decide | omega | assumption | (simp only [List.length_nil, fx, subL_00] <;> omega) | (simp [keyNew, sameKey, kEq] <;> omega))); conv => whnf)
        | (refine reqK_of ?_ ?_; rotate_left; (conv => whnf); rotate_left)
        | (refine nth_us ?_ ?_ ?_; (focus (first | omega | (simp only [List.length_nil, fx, subL_00] <;> omega))); (focus (first | omega | (simp only [List.length_nil, fx, subL_00] <;> omega))); conv => whnf)
        | (refine nth_is ?_ ?_ ?_; (focus (first | omega | (simp only [List.length_nil, fx, subL_00] <;> omega))); (focus (first | omega | (simp only [List.length_nil, fx, subL_00] <;> omega))); conv => whnf)
        | (refine nth_bs ?_ ?_ ?_; (focus (first | omega | (simp only [List.length_nil, fx, subL_00] <;> omega))); (focus (first | omega | (simp only [List.length_nil, fx, subL_00] <;> omega))); conv => whnf))
      refine .inr ⟨srt a, es, fun z => b.count z, rfl, rfl, rfl, by omega, hgr, hgb, fun he => ?_, fun ts z k' es' hz hk' ht => ?_⟩
      · rw [hLe] at he
        have hla2 : (lessL a b).length = a.length := by rw [he, hsl]
        have hw2 : IntKind.i64.wrap ((a.length : Int) + (b.length : Int)) = (a.length : Int) + (b.length : Int) := wrap_i64 ⟨by omega, by omega⟩
        unfold lsOwn
        dsimp only
        conv => whnf
        repeat' (first
          | (refine brK_true rfl ?_; conv => whnf)
          | (refine brK_false rfl ?_; conv => whnf)
          | (refine brK_true (by assumption) ?_; conv => whnf)
          | (refine brK_false (by assumption) ?_; conv => whnf)
          | (refine brK_true ?_ ?_; (focus (simp only [List.length_nil, fx, hsl, hw2] <;> omega)); conv => whnf)
          | (refine brK_false ?_ ?_; (focus (simp only [List.length_nil, fx, hsl, hw2] <;> omega)); conv => whnf)
          | ((refine brK_of (fun h => ?_) (fun h => ?_)) <;> (have h2 := h; (try simp only [List.length_nil, fx, hsl, hw2] at h2); conv => whnf))
          | (refine reqK_of ?_ ?_; (focus (first | decide | omega | assumption | (simp only [List.length_nil, fx, hsl, hw2] <;> omega) | (simp [keyNew, sameKey, kEq] <;> omega))); conv => whnf)
          | (refine reqK_of ?_ ?_; rotate_left; (conv => whnf); rotate_left)
          | (refine nth_us ?_ ?_ ?_; (focus (first | omega | (simp only [List.length_nil, fx, hsl, hw2] <;> omega))); (focus (first | omega | (simp only [List.length_nil, fx, hsl, hw2] <;> omega))); conv => whnf)
          | (refine nth_is ?_ ?_ ?_; (focus (first | omega | (simp only [List.length_nil, fx, hsl, hw2] <;> omega))); (focus (first | omega | (simp only [List.length_nil, fx, hsl, hw2] <;> omega))); conv => whnf)
          | (refine nth_bs ?_ ?_ ?_; (focus (first | omega | (simp only [List.length_nil, fx, hsl, hw2] <;> omega))); (focus (first | omega | (simp only [List.length_nil, fx, hsl, hw2] <;> omega))); conv => whnf))
        · have hB : lessB a b = false := by unfold lessB; rw [decide_eq_false_iff_not]; omega
          have hI : lessI a b = [] := by unfold lessI; rw [hB]; rfl
          rw [hI, hB]; exact more_tup2 1
        · have hB : lessB a b = true := by unfold lessB; rw [decide_eq_true_iff]; omega
          have hI : lessI a b = lessL a b := by unfold lessI; rw [hB]; rfl
          rw [hI, hB, subL_00, he]; exact fun _ _ _ h => h
      · rw [hLe] at ht
        have hkl : k' = (lessL a b).length := by rw [← ht, List.length_take]; omega
        have hll := less_len_le a b
        have hw2 : IntKind.i64.wrap (lenL (is ts) 0 (some z.toNat) + (b.length : Int)) = ((lessL a b).length : Int) + (b.length : Int) := by
          show IntKind.i64.wrap ((z.toNat : Int) + (b.length : Int)) = _
          rw [hz, hkl]; exact wrap_i64 ⟨by simp; omega, by simp; omega⟩
        unfold lsOwn
        dsimp only
        conv => whnf
        repeat' (first
          | (refine brK_true rfl ?_; conv => whnf)
          | (refine brK_false rfl ?_; conv => whnf)
          | (refine brK_true (by assumption) ?_; conv => whnf)
          | (refine brK_false (by assumption) ?_; conv => whnf)
          | (refine brK_true ?_ ?_; (focus (simp only [List.length_nil, fx, hsl, hw2] <;> omega)); conv => whnf)
          | (refine brK_false ?_ ?_; (focus (simp only [List.length_nil, fx, hsl, hw2] <;> omega)); conv => whnf)
          | ((refine brK_of (fun h => ?_) (fun h => ?_)) <;> (have h2 := h; (try simp only [List.length_nil, fx, hsl, hw2] at h2); conv => whnf))
          | (refine reqK_of ?_ ?_; (focus (first | decide | omega | assumption | (simp only [List.length_nil, fx, hsl, hw2] <;> omega) | (simp [keyNew, sameKey, kEq] <;> omega))); conv => whnf)
          | (refine reqK_of ?_ ?_; rotate_left; (conv => whnf); rotate_left)
          | (refine nth_us ?_ ?_ ?_; (focus (first | omega | (simp only [List.length_nil, fx, hsl, hw2] <;> omega))); (focus (first | omega | (simp only [List.length_nil, fx, hsl, hw2] <;> omega))); conv => whnf)
          | (refine nth_is ?_ ?_ ?_; (focus (first | omega | (simp only [List.length_nil, fx, hsl, hw2] <;> omega))); (focus (first | omega | (simp only [List.length_nil, fx, hsl, hw2] <;> omega))); conv => whnf)
          | (refine nth_bs ?_ ?_ ?_; (focus (first | omega | (simp only [List.length_nil, fx, hsl, hw2] <;> omega))); (focus (first | omega | (simp only [List.length_nil, fx, hsl, hw2] <;> omega))); conv => whnf))
        · have hB : lessB a b = false := by unfold lessB; rw [decide_eq_false_iff_not]; omega
          have hI : lessI a b = [] := by unfold lessI; rw [hB]; rfl
          rw [hI, hB]; exact more_tup2 1
        · have hB : lessB a b = true := by unfold lessB; rw [decide_eq_true_iff]; omega
          have hI : lessI a b = lessL a b := by unfold lessI; rw [hB]; rfl
          have hsub : subL (is ts) 0 (some z.toNat) = is (lessL a b) := by
            rw [← ht, hz]; simp [subL, is, List.map_take]
          rw [hI, hB, hsub]; exact fun _ _ _ h => h
    · have hnil := is_nil_iff.1 hnil
      subst hnil
      dsimp only
      conv => whnf
      repeat' (first
        | (refine brK_true rfl ?_; conv => whnf)
        | (refine brK_false rfl ?_; conv => whnf)
        | (refine brK_true (by assumption) ?_; conv => whnf)
        | (refine brK_false (by assumption) ?_; conv => whnf)
        | (refine brK_true ?_ ?_; (focus (simp only [List.length_nil, fx] <;> omega)); conv => whnf)
        | (refine brK_false ?_ ?_; (focus (simp only [List.length_nil, fx] <;> omega)); conv => whnf)
        | ((refine brK_of (fun h => ?_) (fun h => ?_)) <;> (have h2 := h; (try simp only [List.length_nil, fx] at h2); conv => whnf))
        | (refine reqK_of ?_ ?_; (focus (first | decide | omega | assumption | (simp only [List.length_nil, fx] <;> omega) | (simp [keyNew, sameKey, kEq] <;> omega))); conv => whnf)
        | (refine reqK_of ?_ ?_; rotate_left; (conv => whnf); rotate_left)
        | (refine nth_us ?_ ?_ ?_; (focus (first | omega | (simp only [List.length_nil, fx] <;> omega))); (focus (first | omega | (simp only [List.length_nil, fx] <;> omega))); conv => whnf)
        | (refine nth_is ?_ ?_ ?_; (focus (first | omega | (simp only [List.length_nil, fx] <;> omega))); (focus (first | omega | (simp only [List.length_nil, fx] <;> omega))); conv => whnf)
        | (refine nth_bs ?_ ?_ ?_; (focus (first | omega | (simp only [List.length_nil, fx] <;> omega))); (focus (first | omega | (simp only [List.length_nil, fx] <;> omega))); conv => whnf))
      refine .inr ⟨rfl, ?_⟩
      dsimp only
      conv => whnf
      repeat' (first
        | (refine brK_true rfl ?_; conv => whnf)
        | (refine brK_false rfl ?_; conv => whnf)
        | (refine brK_true (by assumption) ?_; conv => whnf)
        | (refine brK_false (by assumption) ?_; conv => whnf)
        | (refine brK_true ?_ ?_; (focus (simp only [List.length_nil, fx] <;> omega)); conv => whnf)
        | (refine brK_false ?_ ?_; (focus (simp only [List.length_nil, fx] <;> omega)); conv => whnf)
        | ((refine brK_of (fun h => ?_) (fun h => ?_)) <;> (have h2 := h; (try simp only [List.length_nil, fx] at h2); conv => whnf))
        | (refine reqK_of ?_ ?_; (focus (first | decide | omega | assumption | (simp only [List.length_nil, fx] <;> omega) | (simp [keyNew, sameKey, kEq] <;> omega))); conv => whnf)
        | (refine reqK_of ?_ ?_; rotate_left; (conv => whnf); rotate_left)
        | (refine nth_us ?_ ?_ ?_; (focus (first | omega | (simp only [List.length_nil, fx] <;> omega))); (focus (first | omega | (simp only [List.length_nil, fx] <;> omega))); conv => whnf)
        | (refine nth_is ?_ ?_ ?_; (focus (first | omega | (simp only [List.length_nil, fx] <;> omega))); (focus (first | omega | (simp only [List.length_nil, fx] <;> omega))); conv => whnf)
        | (refine nth_bs ?_ ?_ ?_; (focus (first | omega | (simp only [List.length_nil, fx] <;> omega))); (focus (first | omega | (simp only [List.length_nil, fx] <;> omega))); conv => whnf))
      refine .inl ⟨es, rfl, rfl, ?_⟩
      have hw3 : IntKind.i64.wrap (0 + (b.length : Int)) = (b.length : Int) := by rw [Int.zero_add]; exact wrap_i64 ⟨by omega, by omega⟩
      have hLn : lessL [] b = [] := rfl
      have hw4 : IntKind.i64.wrap (((0 : Nat) : Int) + (b.length : Int)) = (b.length : Int) := hw3
      conv => whnf
      repeat' (first
        | (refine brK_true rfl ?_; conv => whnf)
        | (refine brK_false rfl ?_; conv => whnf)
        | (refine brK_true (by assumption) ?_; conv => whnf)
        | (refine brK_false (by assumption) ?_; conv => whnf)
        | (refine brK_true ?_ ?_; (focus (simp only [List.length_nil, fx, hw3, hw4] <;> omega)); conv => whnf)
        | (refine brK_false ?_ ?_; (focus (simp only [List.length_nil, fx, hw3, hw4] <;> omega)); conv => whnf)
        | ((refine brK_of (fun h => ?_) (fun h => ?_)) <;> (have h2 := h; (try simp only [List.length_nil, fx, hw3, hw4] at h2); conv => whnf))
        | (refine reqK_of ?_ ?_; (focus (first | decide | omega | assumption | (simp only [List.length_nil, fx, hw3, hw4] <;> omega) | (simp [keyNew, sameKey, kEq] <;> omega))); conv => whnf)
        | (refine reqK_of ?_ ?_; rotate_left; (conv => whnf); rotate_left)
        | (refine nth_us ?_ ?_ ?_; (focus (first | omega | (simp only [List.length_nil, fx, hw3, hw4] <;> omega))); (focus (first | omega | (simp only [List.length_nil, fx, hw3, hw4] <;> omega))); conv => whnf)
        | (refine nth_is ?_ ?_ ?_; (focus (first | omega | (simp only [List.length_nil, fx, hw3, hw4] <;> omega))); (focus (first | omega | (simp only [List.length_nil, fx, hw3, hw4] <;> omega))); conv => whnf)
        | (refine nth_bs ?_ ?_ ?_; (focus (first | omega | (simp only [List.length_nil, fx, hw3, hw4] <;> omega))); (focus (first | omega | (simp only [List.length_nil, fx, hw3, hw4] <;> omega))); conv => whnf))
      · have hB : lessB [] b = false := by unfold lessB; rw [decide_eq_false_iff_not, hLn]; simp only [List.length_nil, hw3, hw4] at *; omega
        rw [lessI_nil, hB]; exact more_tup2 1
      · have hB : lessB [] b = true := by unfold lessB; rw [decide_eq_true_iff, hLn]; simp only [List.length_nil, hw3, hw4] at *; omega
        rw [lessI_nil, hB]; exact more_tup2 1
theorem ok19_2 (ys : List T) (hq : (IsI ys ∧ SzB ys)) : FnOk Try.prog tgl 19 [.nils, .list 1 ys] (.tup [.list 1 (is (lessI [] (nums ys))), .bool (lessB [] (nums ys))]) := by
  exact FnOk.nilA (ok19 [] ys ⟨⟨⟨[], rfl, fun _ h => (by cases h)⟩, by unfold SzB maxBytes; simp⟩, hq⟩)
theorem ok19_3 (xs : List T) (hq : (IsI xs ∧ SzB xs)) : FnOk Try.prog tgl 19 [.list 1 xs, .nils] (.tup [.list 1 (is (lessI (nums xs) [])), .bool (lessB (nums xs) [])]) := by
  exact FnOk.nilB (ok19 xs [] ⟨hq, ⟨[], rfl, fun _ h => (by cases h)⟩, by unfold SzB maxBytes; simp⟩)
theorem ok19_4  (hq : True) : FnOk Try.prog tgl 19 [.nils, .nils] (.tup [.list 1 (is (lessI [] [])), .bool (lessB [] [])]) := by
  exact FnOk.nilA (FnOk.nilB (ok19 [] [] ⟨⟨⟨[], rfl, fun _ h => (by cases h)⟩, by unfold SzB maxBytes; simp⟩, ⟨[], rfl, fun _ h => (by cases h)⟩, by unfold SzB maxBytes; simp⟩))
open Classical in
noncomputable def c19 : List T → Ans
  | [.list 1 xs, .list 1 ys] => .req ((IsI xs ∧ SzB xs) ∧ (IsI ys ∧ SzB ys)) (.tup [.list 1 (is (lessI (nums xs) (nums ys))), .bool (lessB (nums xs) (nums ys))])
  | [.nils, .list 1 ys] => .req ((IsI ys ∧ SzB ys)) (.tup [.list 1 (is (lessI [] (nums ys))), .bool (lessB [] (nums ys))])
  | [.list 1 xs, .nils] => .req ((IsI xs ∧ SzB xs)) (.tup [.list 1 (is (lessI (nums xs) [])), .bool (lessB (nums xs) [])])
  | [.nils, .nils] => .req (True) (.tup [.list 1 (is (lessI [] [])), .bool (lessB [] [])])
  | _ => .no
theorem got19 {vs : List T} {x : T} (h : Got (c19 vs) x) : FnOk Try.prog tgl 19 vs x := by
  unfold c19 at h
  split at h
  · obtain ⟨hq, e⟩ := got_req h; rw [e]; exact ok19 _ _ hq
  · obtain ⟨hq, e⟩ := got_req h; rw [e]; exact ok19_2 _ hq
  · obtain ⟨hq, e⟩ := got_req h; rw [e]; exact ok19_3 _ hq
  · obtain ⟨hq, e⟩ := got_req h; rw [e]; exact ok19_4 hq
  · exact (got_no h).elim
theorem nogl19 (vs : List T) (p : Prop) (d : Decidable p) (sz : Nat) (xs : List T) (h : c19 vs = @Ans.gl p d sz xs) : False := by
  unfold c19 at h
  split at h <;> cases h
theorem pk19 (vs : List T) (p : Prop) (d : Decidable p) (x : T) (h : c19 vs = @Ans.pk p d x) (hp : p) : FnOk Try.prog tgl 19 vs x := by
  unfold c19 at h
  split at h
  · cases h
  · cases h
  · cases h
  · cases h
  · cases h
end Go.Nx
