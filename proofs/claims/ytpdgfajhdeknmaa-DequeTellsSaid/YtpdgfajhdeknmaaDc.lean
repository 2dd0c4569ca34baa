/-
  A DEQUE's MACHINE: A STEP.
-/
import Derived.Test.YtpdgfajhdeknmaaDb
set_option linter.unusedVariables false
set_option linter.unusedSimpArgs false
set_option maxRecDepth 20000
set_option maxHeartbeats 4000000
namespace Go.Nx
open Go.RowKit Go.Proofs

noncomputable def lE3 : List (Nat × (List T → Ans)) := (23, c23) :: (29, c29) :: (51, c51) :: (46, c46) :: lE2
noncomputable def iE3 : List (Nat × Pt) := iE2
noncomputable abbrev E3 : Env := En tgl lE3 iE3
theorem env_E3 : EnvOk Try.prog E3 := (env_fn (env_fn (env_fn (env_fn env_E2 (fun _ _ => got46) (fun vs p d sz xs h _ => (nogl46 vs p d sz xs h).elim) pk46) (fun _ _ => got51) (fun vs p d sz xs h _ => (nogl51 vs p d sz xs h).elim) pk51) (fun _ _ => got29) (fun vs p d sz xs h _ => (nogl29 vs p d sz xs h).elim) pk29) (fun _ _ => got23) (fun vs p d sz xs h _ => (nogl23 vs p d sz xs h).elim) pk23)
structure DM where
  kind : Int
  pc : Int
  base : Int
  cap : Int
  b : Int
  t : Int
  x : Int
  out : Int
def DM.T (d : DM) : Nx.T := .agg [.int .i64 d.kind, .int .i64 d.pc, .int .i64 d.base, .int .i64 d.cap, .int .u64 d.b, .int .u64 d.t, .int .i64 d.x, .int .i64 d.out]
abbrev wi (n : Int) : Int := IntKind.i64.wrap n
abbrev wu (n : Int) : Int := IntKind.u64.wrap n
def szR (cap : Int) : Int := wu (maxI cap 1)
def plR (base cap i : Int) : Int := wi (wi (base + 2) + wi (i.tmod (wu (maxI cap 1))))
theorem sz_ne {cap : Int} (h : I64 cap) : wu (maxI cap 1) ≠ 0 := by
  obtain ⟨h1, h2⟩ := h
  have : wu (maxI cap 1) = maxI cap 1 := wrap_u64 (by rw [maxI_def]; split <;> unfold R64 <;> omega)
  rw [this, maxI_def]; split <;> omega
def dstep (m : List Int) (d : DM) : List Int × DM :=
  if d.out = 0 then
    if d.kind = 1 then
      if d.pc = 0 then (m, ⟨1, 1, d.base, d.cap, ldV m (wi (d.base + 1)), d.t, d.x, 0⟩)
      else if d.pc = 1 then (m, ⟨1, 2, d.base, d.cap, d.b, ldV m d.base, d.x, if leI (wu (maxI d.cap 1)) (wu (d.b - ldV m d.base)) = true then 3 else 0⟩)
      else if d.pc = 2 then (stL m (plR d.base d.cap d.b) (wu d.x), ⟨1, 3, d.base, d.cap, d.b, d.t, d.x, 0⟩)
      else if d.pc = 3 then (stL m (wi (d.base + 1)) (wu (d.b + 1)), ⟨1, 4, d.base, d.cap, d.b, d.t, d.x, 1⟩)
      else (m, d)
    else if d.kind = 2 then
      if d.pc = 0 then (m, ⟨2, 1, d.base, d.cap, ldV m (wi (d.base + 1)), d.t, d.x, 0⟩)
      else if d.pc = 1 then (stL m (wi (d.base + 1)) (wu (d.b - 1)), ⟨2, 2, d.base, d.cap, d.b, d.t, d.x, 0⟩)
      else if d.pc = 2 then (m, ⟨2, if ltI 0 (wi (wu (ldV m d.base - wu (d.b - 1)))) = true then 5 else 3, d.base, d.cap, d.b, ldV m d.base, d.x, 0⟩)
      else if d.pc = 3 then (m, ⟨2, 4, d.base, d.cap, d.b, d.t, wi (ldV m (plR d.base d.cap (wu (d.b - 1)))), if eqI d.t (wu (d.b - 1)) = true then 0 else 1⟩)
      else if d.pc = 4 then (doL m 3 d.base d.t (wu (d.t + 1)), ⟨2, if doB m 3 d.base d.t = true then 6 else 5, d.base, d.cap, d.b, d.t, d.x, 0⟩)
      else if d.pc = 5 then (stL m (wi (d.base + 1)) d.b, ⟨2, 6, d.base, d.cap, d.b, d.t, 0, 2⟩)
      else if d.pc = 6 then (stL m (wi (d.base + 1)) d.b, ⟨2, 7, d.base, d.cap, d.b, d.t, d.x, 1⟩)
      else (m, d)
    else if d.kind = 3 then
      if d.pc = 0 then (m, ⟨3, 1, d.base, d.cap, d.b, ldV m d.base, d.x, 0⟩)
      else if d.pc = 1 then (m, ⟨3, 2, d.base, d.cap, ldV m (wi (d.base + 1)), d.t, d.x, if ltI 0 (wi (wu (ldV m (wi (d.base + 1)) - d.t))) = true then 0 else 2⟩)
      else if d.pc = 2 then (m, ⟨3, 3, d.base, d.cap, d.b, d.t, wi (ldV m (plR d.base d.cap d.t)), 0⟩)
      else if d.pc = 3 then (doL m 3 d.base d.t (wu (d.t + 1)), if doB m 3 d.base d.t = true then ⟨3, 4, d.base, d.cap, d.b, d.t, d.x, 1⟩ else ⟨3, 4, d.base, d.cap, d.b, d.t, 0, 4⟩)
      else (m, d)
    else (m, d)
  else (m, d)
theorem dstep_eq {l X : List Int} {d : DM} {a1 a2 a3 a4 a5 a6 a7 a8 : Int} (h : (X, DM.mk a1 a2 a3 a4 a5 a6 a7 a8) = dstep l d) :
    T.tup [.list 1 (us X), .agg [.int .i64 a1, .int .i64 a2, .int .i64 a3, .int .i64 a4, .int .u64 a5, .int .u64 a6, .int .i64 a7, .int .i64 a8]] = .tup [.list 1 (us (dstep l d).1), (dstep l d).2.T] := by
  rw [← h]; rfl
theorem e41 : eqI 4 1 = false := by rw [eqI_def]; rfl
theorem e31 : eqI 3 1 = false := by rw [eqI_def]; rfl
theorem e21 : eqI 2 1 = false := by rw [eqI_def]; rfl
theorem wz1 : IntKind.i64.wrap 1 = 1 := rfl
theorem wz2 : IntKind.i64.wrap 2 = 2 := rfl
theorem wz3 : IntKind.i64.wrap 3 = 3 := rfl
theorem wz4 : IntKind.i64.wrap 4 = 4 := rfl
theorem wz5 : IntKind.i64.wrap 5 = 5 := rfl
theorem wz6 : IntKind.i64.wrap 6 = 6 := rfl
theorem wz7 : IntKind.i64.wrap 7 = 7 := rfl
theorem w01 : IntKind.i64.wrap (0 + 1) = 1 := rfl
theorem w11 : IntKind.i64.wrap (1 + 1) = 2 := rfl
theorem w21 : IntKind.i64.wrap (2 + 1) = 3 := rfl
theorem w31 : IntKind.i64.wrap (3 + 1) = 4 := rfl
theorem w41 : IntKind.i64.wrap (4 + 1) = 5 := rfl
theorem w51 : IntKind.i64.wrap (5 + 1) = 6 := rfl
theorem w61 : IntKind.i64.wrap (6 + 1) = 7 := rfl
theorem ok26 (a b : Int) : FnOk Try.prog tgl 26 [.int .u64 a, .int .u64 b] (.bool (ltI 0 (wi (wu (a - b))))) := by
  refine fn_ok (Γ := E3) env_E3 Try.func26 low26 ?_
  conv => whnf
  repeat' (first | (refine brK_true (by assumption) ?_; conv => whnf) | (refine brK_false (by assumption) ?_; conv => whnf) | (refine brK_of (fun h => ?_) (fun h => ?_) <;> conv => whnf) | (refine reqK_of ?_ ?_; (focus (first | decide | omega | assumption | (simp [keyNew, sameKey, kEq] <;> omega))); conv => whnf) | (refine reqK_of ?_ ?_; rotate_left; (conv => whnf); rotate_left))
open Classical in
noncomputable def c26 : List T → Ans
  | [.int .u64 a, .int .u64 b] => .yes (.bool (ltI 0 (wi (wu (a - b)))))
  | _ => .no
theorem got26 {vs : List T} {x : T} (h : Got (c26 vs) x) : FnOk Try.prog tgl 26 vs x := by
  unfold c26 at h
  split at h
  · rw [got_yes h]; exact ok26 _ _
  · exact (got_no h).elim
theorem nogl26 (vs : List T) (p : Prop) (d : Decidable p) (sz : Nat) (xs : List T) (h : c26 vs = @Ans.gl p d sz xs) : False := by
  unfold c26 at h
  split at h <;> cases h
theorem pk26 (vs : List T) (p : Prop) (d : Decidable p) (x : T) (h : c26 vs = @Ans.pk p d x) (hp : p) : FnOk Try.prog tgl 26 vs x := by
  unfold c26 at h
  split at h
  · cases h
  · cases h
theorem ok27 (kind pc base cap b t x out : Int) : FnOk Try.prog tgl 27 [.ref [.int .i64 kind, .int .i64 pc, .int .i64 base, .int .i64 cap, .int .u64 b, .int .u64 t, .int .i64 x, .int .i64 out]] (.int .u64 (wu (maxI cap 1))) := by
  refine fn_ok (Γ := E3) env_E3 Try.func27 low27 ?_
  conv => whnf
  repeat' (first | (refine brK_true (by assumption) ?_; conv => whnf) | (refine brK_false (by assumption) ?_; conv => whnf) | (refine brK_of (fun h => ?_) (fun h => ?_) <;> conv => whnf) | (refine reqK_of ?_ ?_; (focus (first | decide | omega | assumption | (simp [keyNew, sameKey, kEq] <;> omega))); conv => whnf) | (refine reqK_of ?_ ?_; rotate_left; (conv => whnf); rotate_left))
open Classical in
noncomputable def c27 : List T → Ans
  | [.ref [.int .i64 kind, .int .i64 pc, .int .i64 base, .int .i64 cap, .int .u64 b, .int .u64 t, .int .i64 x, .int .i64 out]] => .pk True (.int .u64 (wu (maxI cap 1)))
  | _ => .no
theorem got27 {vs : List T} {x : T} (h : Got (c27 vs) x) : FnOk Try.prog tgl 27 vs x := by
  unfold c27 at h
  split at h
  · exact (got_pk h).elim
  · exact (got_no h).elim
theorem nogl27 (vs : List T) (p : Prop) (d : Decidable p) (sz : Nat) (xs : List T) (h : c27 vs = @Ans.gl p d sz xs) : False := by
  unfold c27 at h
  split at h <;> cases h
theorem pk27 (vs : List T) (p : Prop) (d : Decidable p) (x : T) (h : c27 vs = @Ans.pk p d x) (hp : p) : FnOk Try.prog tgl 27 vs x := by
  unfold c27 at h
  split at h
  · cases h; exact ok27 _ _ _ _ _ _ _ _
  · cases h
theorem ok24 (kind pc base cap b t x out : Int) : FnOk Try.prog tgl 24 [.ref [.int .i64 kind, .int .i64 pc, .int .i64 base, .int .i64 cap, .int .u64 b, .int .u64 t, .int .i64 x, .int .i64 out]] (.int .i64 base) := by
  refine fn_ok (Γ := E3) env_E3 Try.func24 low24 ?_
  conv => whnf
  repeat' (first | (refine brK_true (by assumption) ?_; conv => whnf) | (refine brK_false (by assumption) ?_; conv => whnf) | (refine brK_of (fun h => ?_) (fun h => ?_) <;> conv => whnf) | (refine reqK_of ?_ ?_; (focus (first | decide | omega | assumption | (simp [keyNew, sameKey, kEq] <;> omega))); conv => whnf) | (refine reqK_of ?_ ?_; rotate_left; (conv => whnf); rotate_left))
open Classical in
noncomputable def c24 : List T → Ans
  | [.ref [.int .i64 kind, .int .i64 pc, .int .i64 base, .int .i64 cap, .int .u64 b, .int .u64 t, .int .i64 x, .int .i64 out]] => .pk True (.int .i64 base)
  | _ => .no
theorem got24 {vs : List T} {x : T} (h : Got (c24 vs) x) : FnOk Try.prog tgl 24 vs x := by
  unfold c24 at h
  split at h
  · exact (got_pk h).elim
  · exact (got_no h).elim
theorem nogl24 (vs : List T) (p : Prop) (d : Decidable p) (sz : Nat) (xs : List T) (h : c24 vs = @Ans.gl p d sz xs) : False := by
  unfold c24 at h
  split at h <;> cases h
theorem pk24 (vs : List T) (p : Prop) (d : Decidable p) (x : T) (h : c24 vs = @Ans.pk p d x) (hp : p) : FnOk Try.prog tgl 24 vs x := by
  unfold c24 at h
  split at h
  · cases h; exact ok24 _ _ _ _ _ _ _ _
  · cases h
theorem ok25 (kind pc base cap b t x out : Int) : FnOk Try.prog tgl 25 [.ref [.int .i64 kind, .int .i64 pc, .int .i64 base, .int .i64 cap, .int .u64 b, .int .u64 t, .int .i64 x, .int .i64 out]] (.int .i64 (wi (base + 1))) := by
  refine fn_ok (Γ := E3) env_E3 Try.func25 low25 ?_
  conv => whnf
  repeat' (first | (refine brK_true (by assumption) ?_; conv => whnf) | (refine brK_false (by assumption) ?_; conv => whnf) | (refine brK_of (fun h => ?_) (fun h => ?_) <;> conv => whnf) | (refine reqK_of ?_ ?_; (focus (first | decide | omega | assumption | (simp [keyNew, sameKey, kEq] <;> omega))); conv => whnf) | (refine reqK_of ?_ ?_; rotate_left; (conv => whnf); rotate_left))
open Classical in
noncomputable def c25 : List T → Ans
  | [.ref [.int .i64 kind, .int .i64 pc, .int .i64 base, .int .i64 cap, .int .u64 b, .int .u64 t, .int .i64 x, .int .i64 out]] => .pk True (.int .i64 (wi (base + 1)))
  | _ => .no
theorem got25 {vs : List T} {x : T} (h : Got (c25 vs) x) : FnOk Try.prog tgl 25 vs x := by
  unfold c25 at h
  split at h
  · exact (got_pk h).elim
  · exact (got_no h).elim
theorem nogl25 (vs : List T) (p : Prop) (d : Decidable p) (sz : Nat) (xs : List T) (h : c25 vs = @Ans.gl p d sz xs) : False := by
  unfold c25 at h
  split at h <;> cases h
theorem pk25 (vs : List T) (p : Prop) (d : Decidable p) (x : T) (h : c25 vs = @Ans.pk p d x) (hp : p) : FnOk Try.prog tgl 25 vs x := by
  unfold c25 at h
  split at h
  · cases h; exact ok25 _ _ _ _ _ _ _ _
  · cases h
def endX (kind x o : Int) : Int := if eqI o 1 = true then x else if eqI kind 1 = true then x else 0
def blkD (kind pc base cap b t x out : Int) : Blk := .cells [.t (.int .i64 kind), .t (.int .i64 pc), .t (.int .i64 base), .t (.int .i64 cap), .t (.int .u64 b), .t (.int .u64 t), .t (.int .i64 x), .t (.int .i64 out)]
def blkZ : Blk := .cells [.t (.int .i64 0), .t (.int .i64 0), .t (.int .i64 0), .t (.int .i64 0), .t (.int .u64 0), .t (.int .u64 0), .t (.int .i64 0), .t (.int .i64 0)]
theorem inlEnd {kind pc base cap b t x out o : Int} {bs : Nat} {R : V → Own → Prop} (hR : R (.t (.tup [])) [(69, blkZ), (67, blkD kind pc base cap b t (endX kind x o) o)]) :
    inl E3 m50 bs [.ptr 67 0, .t (.int .i64 o)] [(69, blkZ), (67, blkD kind pc base cap b t x out)] R := by
  unfold inl blkD blkZ
  conv => whnf
  repeat' (first
    | (refine brK_true (by assumption) ?_; conv => whnf)
    | (refine brK_false (by assumption) ?_; conv => whnf)
    | (refine brK_true ?_ ?_; (focus (simp only [List.length_nil, not_t, not_f, lt_t, lt_f, le_t, le_f, eq_t, eq_f, us_len, is_len, bs_len, lenL_00] <;> omega)); conv => whnf)
    | (refine brK_false ?_ ?_; (focus (simp only [List.length_nil, not_t, not_f, lt_t, lt_f, le_t, le_f, eq_t, eq_f, us_len, is_len, bs_len, lenL_00] <;> omega)); conv => whnf)
    | ((refine brK_of (fun h => ?_) (fun h => ?_)) <;> (have h2 := h; (try simp only [List.length_nil, not_t, not_f, lt_t, lt_f, le_t, le_f, eq_t, eq_f, us_len, is_len, bs_len, lenL_00] at h2); conv => whnf))
    | (refine reqK_of ?_ ?_; (focus (first | decide | omega | assumption | (simp only [List.length_nil, not_t, not_f, lt_t, lt_f, le_t, le_f, eq_t, eq_f, us_len, is_len, bs_len, lenL_00] <;> omega) | (simp [keyNew, sameKey, kEq] <;> omega))); conv => whnf)
    | (refine reqK_of ?_ ?_; rotate_left; (conv => whnf); rotate_left)
    | (refine nth_us ?_ ?_ ?_; (focus (first | omega | (simp only [List.length_nil, not_t, not_f, lt_t, lt_f, le_t, le_f, eq_t, eq_f, us_len, is_len, bs_len, lenL_00] <;> omega))); (focus (first | omega | (simp only [List.length_nil, not_t, not_f, lt_t, lt_f, le_t, le_f, eq_t, eq_f, us_len, is_len, bs_len, lenL_00] <;> omega))); conv => whnf)
    | (refine nth_is ?_ ?_ ?_; (focus (first | omega | (simp only [List.length_nil, not_t, not_f, lt_t, lt_f, le_t, le_f, eq_t, eq_f, us_len, is_len, bs_len, lenL_00] <;> omega))); (focus (first | omega | (simp only [List.length_nil, not_t, not_f, lt_t, lt_f, le_t, le_f, eq_t, eq_f, us_len, is_len, bs_len, lenL_00] <;> omega))); conv => whnf)
    | (refine nth_bs ?_ ?_ ?_; (focus (first | omega | (simp only [List.length_nil, not_t, not_f, lt_t, lt_f, le_t, le_f, eq_t, eq_f, us_len, is_len, bs_len, lenL_00] <;> omega))); (focus (first | omega | (simp only [List.length_nil, not_t, not_f, lt_t, lt_f, le_t, le_f, eq_t, eq_f, us_len, is_len, bs_len, lenL_00] <;> omega))); conv => whnf))
  all_goals refine cast (congrArg (R _) ?_) hR
  all_goals simp_all [endX, blkD, blkZ]
def ptEnd : Pt := fun bs args own R => ∃ kind pc base cap b t x out o, args = [.ptr 67 0, .t (.int .i64 o)] ∧ own = [(69, blkZ), (67, blkD kind pc base cap b t x out)] ∧ R (.t (.tup [])) [(69, blkZ), (67, blkD kind pc base cap b t (endX kind x o) o)]
theorem ptEnd_ok {base : Nat} {args : List V} {own : Own} {R : V → Own → Prop} (h : ptEnd base args own R) : FnV Try.prog tgl 50 args own R := by
  obtain ⟨kind, pc, bs, cap, b, t, x, out, o, rfl, rfl, hR⟩ := h
  exact inl_ok env_E3 Try.func50 low50 (inlEnd (bs := base) hR)
theorem env_pt {P : Program} {gl : Nat → Option (List T)} {l : List (Nat × (List T → Ans))} {il : List (Nat × Pt)} {n : Nat} {g : Pt} (h : EnvOk P (En gl l il)) (hg : ∀ base args own R, g base args own R → FnV P gl n args own R) : EnvOk P (En gl l ((n, g) :: il)) := by
  refine ⟨h.fn, h.gl, h.pk, fun f base args own R hi hR => ?_⟩
  have hR' : ptL ((n, g) :: il) f base args own R := hR
  have hi' : isL ((n, g) :: il) f = true := hi
  simp only [ptL] at hR'
  simp only [isL] at hi'
  cases e : Nat.beq n f with
  | true =>
    rw [e] at hR'
    rw [← Nat.eq_of_beq_eq_true e]
    exact hg base args own R hR'
  | false =>
    rw [e] at hR' hi'
    exact h.pt f base args own R hi' hR'
noncomputable def lE3e : List (Nat × (List T → Ans)) := lE3
noncomputable def iE3e : List (Nat × Pt) := (50, ptEnd) :: iE3
noncomputable abbrev E3e : Env := En tgl lE3e iE3e
theorem env_E3e : EnvOk Try.prog E3e := env_pt env_E3 fun _ _ _ _ => ptEnd_ok
noncomputable def lE4 : List (Nat × (List T → Ans)) := (26, c26) :: (27, c27) :: (24, c24) :: (25, c25) :: lE3e
noncomputable def iE4 : List (Nat × Pt) := (19, inl E3e m19) :: iE3e
noncomputable abbrev E4 : Env := En tgl lE4 iE4
theorem env_E4 : EnvOk Try.prog E4 := (env_fn (env_fn (env_fn (env_fn (env_in env_E3e env_E3e Try.func19 low19) (fun _ _ => got25) (fun vs p d sz xs h _ => (nogl25 vs p d sz xs h).elim) pk25) (fun _ _ => got24) (fun vs p d sz xs h _ => (nogl24 vs p d sz xs h).elim) pk24) (fun _ _ => got27) (fun vs p d sz xs h _ => (nogl27 vs p d sz xs h).elim) pk27) (fun _ _ => got26) (fun vs p d sz xs h _ => (nogl26 vs p d sz xs h).elim) pk26)
theorem ok28 (kind pc base cap b t x out i : Int) (hq : I64 cap) : FnOk Try.prog tgl 28 [.ref [.int .i64 kind, .int .i64 pc, .int .i64 base, .int .i64 cap, .int .u64 b, .int .u64 t, .int .i64 x, .int .i64 out], .int .u64 i] (.int .i64 (plR base cap i)) := by
  refine fn_ok (Γ := E4) env_E4 Try.func28 low28 ?_
  have hz := sz_ne hq
  conv => whnf
  repeat' (first
    | (refine brK_true (by assumption) ?_; conv => whnf)
    | (refine brK_false (by assumption) ?_; conv => whnf)
    | (refine brK_true ?_ ?_; (focus (simp only [List.length_nil, not_t, not_f, lt_t, lt_f, le_t, le_f, eq_t, eq_f, us_len, is_len, bs_len, lenL_00] <;> omega)); conv => whnf)
    | (refine brK_false ?_ ?_; (focus (simp only [List.length_nil, not_t, not_f, lt_t, lt_f, le_t, le_f, eq_t, eq_f, us_len, is_len, bs_len, lenL_00] <;> omega)); conv => whnf)
    | ((refine brK_of (fun h => ?_) (fun h => ?_)) <;> (have h2 := h; (try simp only [List.length_nil, not_t, not_f, lt_t, lt_f, le_t, le_f, eq_t, eq_f, us_len, is_len, bs_len, lenL_00] at h2); conv => whnf))
    | (refine reqK_of ?_ ?_; (focus (first | decide | omega | assumption | (simp only [List.length_nil, not_t, not_f, lt_t, lt_f, le_t, le_f, eq_t, eq_f, us_len, is_len, bs_len, lenL_00] <;> omega) | (simp [keyNew, sameKey, kEq] <;> omega))); conv => whnf)
    | (refine reqK_of ?_ ?_; rotate_left; (conv => whnf); rotate_left)
    | (refine nth_us ?_ ?_ ?_; (focus (first | omega | (simp only [List.length_nil, not_t, not_f, lt_t, lt_f, le_t, le_f, eq_t, eq_f, us_len, is_len, bs_len, lenL_00] <;> omega))); (focus (first | omega | (simp only [List.length_nil, not_t, not_f, lt_t, lt_f, le_t, le_f, eq_t, eq_f, us_len, is_len, bs_len, lenL_00] <;> omega))); conv => whnf)
    | (refine nth_is ?_ ?_ ?_; (focus (first | omega | (simp only [List.length_nil, not_t, not_f, lt_t, lt_f, le_t, le_f, eq_t, eq_f, us_len, is_len, bs_len, lenL_00] <;> omega))); (focus (first | omega | (simp only [List.length_nil, not_t, not_f, lt_t, lt_f, le_t, le_f, eq_t, eq_f, us_len, is_len, bs_len, lenL_00] <;> omega))); conv => whnf)
    | (refine nth_bs ?_ ?_ ?_; (focus (first | omega | (simp only [List.length_nil, not_t, not_f, lt_t, lt_f, le_t, le_f, eq_t, eq_f, us_len, is_len, bs_len, lenL_00] <;> omega))); (focus (first | omega | (simp only [List.length_nil, not_t, not_f, lt_t, lt_f, le_t, le_f, eq_t, eq_f, us_len, is_len, bs_len, lenL_00] <;> omega))); conv => whnf))
  rfl
open Classical in
noncomputable def c28 : List T → Ans
  | [.ref [.int .i64 kind, .int .i64 pc, .int .i64 base, .int .i64 cap, .int .u64 b, .int .u64 t, .int .i64 x, .int .i64 out], .int .u64 i] => .pk (I64 cap) (.int .i64 (plR base cap i))
  | _ => .no
theorem got28 {vs : List T} {x : T} (h : Got (c28 vs) x) : FnOk Try.prog tgl 28 vs x := by
  unfold c28 at h
  split at h
  · exact (got_pk h).elim
  · exact (got_no h).elim
theorem nogl28 (vs : List T) (p : Prop) (d : Decidable p) (sz : Nat) (xs : List T) (h : c28 vs = @Ans.gl p d sz xs) : False := by
  unfold c28 at h
  split at h <;> cases h
theorem pk28 (vs : List T) (p : Prop) (d : Decidable p) (x : T) (h : c28 vs = @Ans.pk p d x) (hp : p) : FnOk Try.prog tgl 28 vs x := by
  unfold c28 at h
  split at h
  · cases h; exact ok28 _ _ _ _ _ _ _ _ _ hp
  · cases h
noncomputable def lE5 : List (Nat × (List T → Ans)) := (28, c28) :: lE4
noncomputable def iE5 : List (Nat × Pt) := (52, inl E4 m52) :: iE4
noncomputable abbrev E5 : Env := En tgl lE5 iE5
theorem env_E5 : EnvOk Try.prog E5 := (env_fn (env_in env_E4 env_E4 Try.func52 low52) (fun _ _ => got28) (fun vs p d sz xs h _ => (nogl28 vs p d sz xs h).elim) pk28)
noncomputable def lE6 : List (Nat × (List T → Ans)) := lE5
noncomputable def iE6 : List (Nat × Pt) := (32, inl E5 m32) :: (33, inl E5 m33) :: (34, inl E5 m34) :: (35, inl E5 m35) :: (36, inl E5 m36) :: (37, inl E5 m37) :: (38, inl E5 m38) :: (39, inl E5 m39) :: (40, inl E5 m40) :: (41, inl E5 m41) :: (42, inl E5 m42) :: (43, inl E5 m43) :: (44, inl E5 m44) :: (45, inl E5 m45) :: iE5
noncomputable abbrev E6 : Env := En tgl lE6 iE6
theorem env_E6 : EnvOk Try.prog E6 := (env_in (env_in (env_in (env_in (env_in (env_in (env_in (env_in (env_in (env_in (env_in (env_in (env_in (env_in env_E5 env_E5 Try.func45 low45) env_E5 Try.func44 low44) env_E5 Try.func43 low43) env_E5 Try.func42 low42) env_E5 Try.func41 low41) env_E5 Try.func40 low40) env_E5 Try.func39 low39) env_E5 Try.func38 low38) env_E5 Try.func37 low37) env_E5 Try.func36 low36) env_E5 Try.func35 low35) env_E5 Try.func34 low34) env_E5 Try.func33 low33) env_E5 Try.func32 low32)
theorem nth_c4 {a b c d : T} {z : Int} {K : T → Prop} (h0 : 0 ≤ z) (h1 : z < 4) (ha : z = 0 → K a) (hb : z = 1 → K b) (hc : z = 2 → K c) (hd : z = 3 → K d) : nthK [a, b, c, d] z K := by
  rcases (by omega : z = 0 ∨ z = 1 ∨ z = 2 ∨ z = 3) with h | h | h | h
  · exact nthK_of a h0 (by rw [h]; rfl) (ha h)
  · exact nthK_of b h0 (by rw [h]; rfl) (hb h)
  · exact nthK_of c h0 (by rw [h]; rfl) (hc h)
  · exact nthK_of d h0 (by rw [h]; rfl) (hd h)
theorem nth_c7 {a b c d e f g : T} {z : Int} {K : T → Prop} (h0 : 0 ≤ z) (h1 : z < 7) (ha : z = 0 → K a) (hb : z = 1 → K b) (hc : z = 2 → K c) (hd : z = 3 → K d) (he : z = 4 → K e) (hf : z = 5 → K f) (hg : z = 6 → K g) : nthK [a, b, c, d, e, f, g] z K := by
  rcases (by omega : z = 0 ∨ z = 1 ∨ z = 2 ∨ z = 3 ∨ z = 4 ∨ z = 5 ∨ z = 6) with h | h | h | h | h | h | h
  · exact nthK_of a h0 (by rw [h]; rfl) (ha h)
  · exact nthK_of b h0 (by rw [h]; rfl) (hb h)
  · exact nthK_of c h0 (by rw [h]; rfl) (hc h)
  · exact nthK_of d h0 (by rw [h]; rfl) (hd h)
  · exact nthK_of e h0 (by rw [h]; rfl) (he h)
  · exact nthK_of f h0 (by rw [h]; rfl) (hf h)
  · exact nthK_of g h0 (by rw [h]; rfl) (hg h)
theorem ok7 (xs : List T) (kind pc base cap b t x out : Int) (hq : (IsU xs ∧ Sz xs) ∧ I64 cap) : FnOk Try.prog tgl 7 [.list 1 xs, .agg [.int .i64 kind, .int .i64 pc, .int .i64 base, .int .i64 cap, .int .u64 b, .int .u64 t, .int .i64 x, .int .i64 out]] (.tup [.list 1 (us (dstep (nums xs) ⟨kind, pc, base, cap, b, t, x, out⟩).1), (dstep (nums xs) ⟨kind, pc, base, cap, b, t, x, out⟩).2.T]) := by
  refine fn_ok (Γ := E6) env_E6 Try.func7 low7 ?_
  obtain ⟨hq', hcap⟩ := hq
  have hq1 := hq'
  obtain ⟨⟨l, rfl, hl⟩, hs⟩ := hq'
  have hz := sz_ne hcap
  have n1 := nums_us l
  rw [n1]
  conv => whnf
  repeat' (first
    | (refine brK_true (by assumption) ?_; conv => whnf)
    | (refine brK_false (by assumption) ?_; conv => whnf)
    | (refine brK_true ?_ ?_; (focus (simp only [List.length_nil, not_t, not_f, lt_t, lt_f, le_t, le_f, eq_t, eq_f, us_len, is_len, bs_len, lenL_00] <;> omega)); conv => whnf)
    | (refine brK_false ?_ ?_; (focus (simp only [List.length_nil, not_t, not_f, lt_t, lt_f, le_t, le_f, eq_t, eq_f, us_len, is_len, bs_len, lenL_00] <;> omega)); conv => whnf)
    | ((refine brK_of (fun h => ?_) (fun h => ?_)) <;> (have h2 := h; (try simp only [List.length_nil, not_t, not_f, lt_t, lt_f, le_t, le_f, eq_t, eq_f, us_len, is_len, bs_len, lenL_00] at h2); conv => whnf))
    | (refine reqK_of ?_ ?_; (focus (first | decide | omega | assumption | (simp only [List.length_nil, not_t, not_f, lt_t, lt_f, le_t, le_f, eq_t, eq_f, us_len, is_len, bs_len, lenL_00] <;> omega) | (simp [keyNew, sameKey, kEq] <;> omega))); conv => whnf)
    | (refine reqK_of ?_ ?_; rotate_left; (conv => whnf); rotate_left)
    | (refine nth_us ?_ ?_ ?_; (focus (first | omega | (simp only [List.length_nil, not_t, not_f, lt_t, lt_f, le_t, le_f, eq_t, eq_f, us_len, is_len, bs_len, lenL_00] <;> omega))); (focus (first | omega | (simp only [List.length_nil, not_t, not_f, lt_t, lt_f, le_t, le_f, eq_t, eq_f, us_len, is_len, bs_len, lenL_00] <;> omega))); conv => whnf)
    | (refine nth_is ?_ ?_ ?_; (focus (first | omega | (simp only [List.length_nil, not_t, not_f, lt_t, lt_f, le_t, le_f, eq_t, eq_f, us_len, is_len, bs_len, lenL_00] <;> omega))); (focus (first | omega | (simp only [List.length_nil, not_t, not_f, lt_t, lt_f, le_t, le_f, eq_t, eq_f, us_len, is_len, bs_len, lenL_00] <;> omega))); conv => whnf)
    | (refine nth_bs ?_ ?_ ?_; (focus (first | omega | (simp only [List.length_nil, not_t, not_f, lt_t, lt_f, le_t, le_f, eq_t, eq_f, us_len, is_len, bs_len, lenL_00] <;> omega))); (focus (first | omega | (simp only [List.length_nil, not_t, not_f, lt_t, lt_f, le_t, le_f, eq_t, eq_f, us_len, is_len, bs_len, lenL_00] <;> omega))); conv => whnf))
  all_goals first
    | (refine nth_c4 ?_ ?_ (fun e => ?_) (fun e => ?_) (fun e => ?_) (fun e => ?_))
    | (refine nth_c7 ?_ ?_ (fun e => ?_) (fun e => ?_) (fun e => ?_) (fun e => ?_) (fun e => ?_) (fun e => ?_) (fun e => ?_))
    | skip
  all_goals first
    | (simp only [List.length_cons, List.length_nil] at *; omega)
    | skip
  all_goals
      conv => whnf
      repeat' (first
        | (refine brK_true (by assumption) ?_; conv => whnf)
        | (refine brK_false (by assumption) ?_; conv => whnf)
        | (refine brK_true ?_ ?_; (focus (simp only [List.length_nil, not_t, not_f, lt_t, lt_f, le_t, le_f, eq_t, eq_f, us_len, is_len, bs_len, lenL_00] <;> omega)); conv => whnf)
        | (refine brK_false ?_ ?_; (focus (simp only [List.length_nil, not_t, not_f, lt_t, lt_f, le_t, le_f, eq_t, eq_f, us_len, is_len, bs_len, lenL_00] <;> omega)); conv => whnf)
        | ((refine brK_of (fun h => ?_) (fun h => ?_)) <;> (have h2 := h; (try simp only [List.length_nil, not_t, not_f, lt_t, lt_f, le_t, le_f, eq_t, eq_f, us_len, is_len, bs_len, lenL_00] at h2); conv => whnf))
        | (refine reqK_of ?_ ?_; (focus (first | decide | omega | assumption | (simp only [List.length_nil, not_t, not_f, lt_t, lt_f, le_t, le_f, eq_t, eq_f, us_len, is_len, bs_len, lenL_00] <;> omega) | (simp [keyNew, sameKey, kEq] <;> omega))); conv => whnf)
        | (refine reqK_of ?_ ?_; rotate_left; (conv => whnf); rotate_left)
        | (refine nth_us ?_ ?_ ?_; (focus (first | omega | (simp only [List.length_nil, not_t, not_f, lt_t, lt_f, le_t, le_f, eq_t, eq_f, us_len, is_len, bs_len, lenL_00] <;> omega))); (focus (first | omega | (simp only [List.length_nil, not_t, not_f, lt_t, lt_f, le_t, le_f, eq_t, eq_f, us_len, is_len, bs_len, lenL_00] <;> omega))); conv => whnf)
        | (refine nth_is ?_ ?_ ?_; (focus (first | omega | (simp only [List.length_nil, not_t, not_f, lt_t, lt_f, le_t, le_f, eq_t, eq_f, us_len, is_len, bs_len, lenL_00] <;> omega))); (focus (first | omega | (simp only [List.length_nil, not_t, not_f, lt_t, lt_f, le_t, le_f, eq_t, eq_f, us_len, is_len, bs_len, lenL_00] <;> omega))); conv => whnf)
        | (refine nth_bs ?_ ?_ ?_; (focus (first | omega | (simp only [List.length_nil, not_t, not_f, lt_t, lt_f, le_t, le_f, eq_t, eq_f, us_len, is_len, bs_len, lenL_00] <;> omega))); (focus (first | omega | (simp only [List.length_nil, not_t, not_f, lt_t, lt_f, le_t, le_f, eq_t, eq_f, us_len, is_len, bs_len, lenL_00] <;> omega))); conv => whnf))
  all_goals first
    | (refine ⟨_, _, _, _, _, _, _, _, _, rfl, rfl, ?_⟩)
    | skip
  all_goals
      conv => whnf
      repeat' (first
        | (refine brK_true (by assumption) ?_; conv => whnf)
        | (refine brK_false (by assumption) ?_; conv => whnf)
        | (refine brK_true ?_ ?_; (focus (simp only [List.length_nil, not_t, not_f, lt_t, lt_f, le_t, le_f, eq_t, eq_f, us_len, is_len, bs_len, lenL_00] <;> omega)); conv => whnf)
        | (refine brK_false ?_ ?_; (focus (simp only [List.length_nil, not_t, not_f, lt_t, lt_f, le_t, le_f, eq_t, eq_f, us_len, is_len, bs_len, lenL_00] <;> omega)); conv => whnf)
        | ((refine brK_of (fun h => ?_) (fun h => ?_)) <;> (have h2 := h; (try simp only [List.length_nil, not_t, not_f, lt_t, lt_f, le_t, le_f, eq_t, eq_f, us_len, is_len, bs_len, lenL_00] at h2); conv => whnf))
        | (refine reqK_of ?_ ?_; (focus (first | decide | omega | assumption | (simp only [List.length_nil, not_t, not_f, lt_t, lt_f, le_t, le_f, eq_t, eq_f, us_len, is_len, bs_len, lenL_00] <;> omega) | (simp [keyNew, sameKey, kEq] <;> omega))); conv => whnf)
        | (refine reqK_of ?_ ?_; rotate_left; (conv => whnf); rotate_left)
        | (refine nth_us ?_ ?_ ?_; (focus (first | omega | (simp only [List.length_nil, not_t, not_f, lt_t, lt_f, le_t, le_f, eq_t, eq_f, us_len, is_len, bs_len, lenL_00] <;> omega))); (focus (first | omega | (simp only [List.length_nil, not_t, not_f, lt_t, lt_f, le_t, le_f, eq_t, eq_f, us_len, is_len, bs_len, lenL_00] <;> omega))); conv => whnf)
        | (refine nth_is ?_ ?_ ?_; (focus (first | omega | (simp only [List.length_nil, not_t, not_f, lt_t, lt_f, le_t, le_f, eq_t, eq_f, us_len, is_len, bs_len, lenL_00] <;> omega))); (focus (first | omega | (simp only [List.length_nil, not_t, not_f, lt_t, lt_f, le_t, le_f, eq_t, eq_f, us_len, is_len, bs_len, lenL_00] <;> omega))); conv => whnf)
        | (refine nth_bs ?_ ?_ ?_; (focus (first | omega | (simp only [List.length_nil, not_t, not_f, lt_t, lt_f, le_t, le_f, eq_t, eq_f, us_len, is_len, bs_len, lenL_00] <;> omega))); (focus (first | omega | (simp only [List.length_nil, not_t, not_f, lt_t, lt_f, le_t, le_f, eq_t, eq_f, us_len, is_len, bs_len, lenL_00] <;> omega))); conv => whnf))
  all_goals first
    | (refine dstep_eq ?_; clear hq1 hl hs; simp only [List.length_cons, List.length_nil, nums_us] at *; simp_all [e41, e31, e21, dstep, plR, endX, w01, w11, w21, w31, w41, w51, w61, wz1, wz2, wz3, wz4, wz5, wz6, wz7] <;> fail)
    | (refine dstep_eq ?_; clear hq1 hl hs; simp only [List.length_cons, List.length_nil, nums_us] at *; have p0 : pc ≠ 0 := (by omega); have p1 : pc ≠ 1 := (by omega); have p2 : pc ≠ 2 := (by omega); have p3 : pc ≠ 3 := (by omega); simp_all [dstep] <;> fail)
    | (refine dstep_eq ?_; clear hq1 hl hs; simp only [List.length_cons, List.length_nil, nums_us] at *; have p0 : pc ≠ 0 := (by omega); have p1 : pc ≠ 1 := (by omega); have p2 : pc ≠ 2 := (by omega); have p3 : pc ≠ 3 := (by omega); have p4 : pc ≠ 4 := (by omega); have p5 : pc ≠ 5 := (by omega); have p6 : pc ≠ 6 := (by omega); simp_all [dstep] <;> fail)
    | trace_state
open Classical in
noncomputable def c7 : List T → Ans
  | [.list 1 xs, .agg [.int .i64 kind, .int .i64 pc, .int .i64 base, .int .i64 cap, .int .u64 b, .int .u64 t, .int .i64 x, .int .i64 out]] => .req ((IsU xs ∧ Sz xs) ∧ I64 cap) (.tup [.list 1 (us (dstep (nums xs) ⟨kind, pc, base, cap, b, t, x, out⟩).1), (dstep (nums xs) ⟨kind, pc, base, cap, b, t, x, out⟩).2.T])
  | _ => .no
theorem got7 {vs : List T} {x : T} (h : Got (c7 vs) x) : FnOk Try.prog tgl 7 vs x := by
  unfold c7 at h
  split at h
  · obtain ⟨hq, e⟩ := got_req h; rw [e]; exact ok7 _ _ _ _ _ _ _ _ _ hq
  · exact (got_no h).elim
theorem nogl7 (vs : List T) (p : Prop) (d : Decidable p) (sz : Nat) (xs : List T) (h : c7 vs = @Ans.gl p d sz xs) : False := by
  unfold c7 at h
  split at h <;> cases h
theorem pk7 (vs : List T) (p : Prop) (d : Decidable p) (x : T) (h : c7 vs = @Ans.pk p d x) (hp : p) : FnOk Try.prog tgl 7 vs x := by
  unfold c7 at h
  split at h
  · cases h
  · cases h
end Go.Nx
