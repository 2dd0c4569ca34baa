/-
  A DEQUE's MACHINE: A STEP.
-/
import Derived.Test.YtommbfigioeghaaGb
set_option linter.unusedVariables false
set_option linter.unusedSimpArgs false
set_option maxRecDepth 20000
set_option maxHeartbeats 4000000
namespace Go.Nx
open Go.RowKit Go.Proofs

noncomputable def lE3 : List (Nat × (List T → Ans)) := (63, c63) :: (120, c120) :: lE2
noncomputable def iE3 : List (Nat × Pt) := iE2
noncomputable abbrev E3 : Env := En tgl lE3 iE3
theorem env_E3 : EnvOk Try.prog E3 := (env_fn (env_fn env_E2 (fun _ _ => got120) (fun vs p d sz xs h _ => (nogl120 vs p d sz xs h).elim) pk120) (fun _ _ => got63) (fun vs p d sz xs h _ => (nogl63 vs p d sz xs h).elim) pk63)
structure DM where
  kind : Int
  pc : Int
  base : Int
  cap : Int
  b : Int
  t : Int
  x : Int
  out : Int
def DM.T (d : DM) : Nx.T := .agg [.int .i64 d.kind, .int .i64 d.pc, .int .i64 d.base, .int .i64 d.cap, .int .u64 d.b, .int .u64 d.t, .int .i64 d.x, .int .i64 d.out]
abbrev wi (n : Int) : Int := IntKind.i64.wrap n
abbrev wu (n : Int) : Int := IntKind.u64.wrap n
def szR (cap : Int) : Int := wu (maxI cap 1)
def plR (base cap i : Int) : Int := wi (wi (base + 2) + wi (i.tmod (wu (maxI cap 1))))
theorem sz_ne {cap : Int} (h : I64 cap) : wu (maxI cap 1) ≠ 0 := by
  obtain ⟨h1, h2⟩ := h
  have : wu (maxI cap 1) = maxI cap 1 := wrap_u64 (by rw [maxI_def]; split <;> unfold R64 <;> omega)
  rw [this, maxI_def]; split <;> omega
def dstep (m : List Int) (d : DM) : List Int × DM :=
  if d.out = 0 then
    if d.kind = 1 then
      if d.pc = 0 then (m, ⟨1, 1, d.base, d.cap, ldV m (wi (d.base + 1)), d.t, d.x, 0⟩)
      else if d.pc = 1 then (m, ⟨1, 2, d.base, d.cap, d.b, ldV m d.base, d.x, if leI (wu (maxI d.cap 1)) (wu (d.b - ldV m d.base)) = true then 3 else 0⟩)
      else if d.pc = 2 then (stL m (plR d.base d.cap d.b) (wu d.x), ⟨1, 3, d.base, d.cap, d.b, d.t, d.x, 0⟩)
      else if d.pc = 3 then (stL m (wi (d.base + 1)) (wu (d.b + 1)), ⟨1, 4, d.base, d.cap, d.b, d.t, d.x, 1⟩)
      else (m, d)
    else if d.kind = 2 then
      if d.pc = 0 then (m, ⟨2, 1, d.base, d.cap, ldV m (wi (d.base + 1)), d.t, d.x, 0⟩)
      else if d.pc = 1 then (stL m (wi (d.base + 1)) (wu (d.b - 1)), ⟨2, 2, d.base, d.cap, d.b, d.t, d.x, 0⟩)
      else if d.pc = 2 then (m, ⟨2, if ltI 0 (wi (wu (ldV m d.base - wu (d.b - 1)))) = true then 5 else 3, d.base, d.cap, d.b, ldV m d.base, d.x, 0⟩)
      else if d.pc = 3 then (m, ⟨2, 4, d.base, d.cap, d.b, d.t, wi (ldV m (plR d.base d.cap (wu (d.b - 1)))), if eqI d.t (wu (d.b - 1)) = true then 0 else 1⟩)
      else if d.pc = 4 then (doL m 3 d.base d.t (wu (d.t + 1)), ⟨2, if doB m 3 d.base d.t = true then 6 else 5, d.base, d.cap, d.b, d.t, d.x, 0⟩)
      else if d.pc = 5 then (stL m (wi (d.base + 1)) d.b, ⟨2, 6, d.base, d.cap, d.b, d.t, 0, 2⟩)
      else if d.pc = 6 then (stL m (wi (d.base + 1)) d.b, ⟨2, 7, d.base, d.cap, d.b, d.t, d.x, 1⟩)
      else (m, d)
    else if d.kind = 3 then
      if d.pc = 0 then (m, ⟨3, 1, d.base, d.cap, d.b, ldV m d.base, d.x, 0⟩)
      else if d.pc = 1 then (m, ⟨3, 2, d.base, d.cap, ldV m (wi (d.base + 1)), d.t, d.x, if ltI 0 (wi (wu (ldV m (wi (d.base + 1)) - d.t))) = true then 0 else 2⟩)
      else if d.pc = 2 then (m, ⟨3, 3, d.base, d.cap, d.b, d.t, wi (ldV m (plR d.base d.cap d.t)), 0⟩)
      else if d.pc = 3 then (doL m 3 d.base d.t (wu (d.t + 1)), if doB m 3 d.base d.t = true then ⟨3, 4, d.base, d.cap, d.b, d.t, d.x, 1⟩ else ⟨3, 4, d.base, d.cap, d.b, d.t, 0, 4⟩)
      else (m, d)
    else (m, d)
  else (m, d)
theorem dstep_eq {l X : List Int} {d : DM} {a1 a2 a3 a4 a5 a6 a7 a8 : Int} (h : (X, DM.mk a1 a2 a3 a4 a5 a6 a7 a8) = dstep l d) :
    T.tup [.list 1 (us X), .agg [.int .i64 a1, .int .i64 a2, .int .i64 a3, .int .i64 a4, .int .u64 a5, .int .u64 a6, .int .i64 a7, .int .i64 a8]] = .tup [.list 1 (us (dstep l d).1), (dstep l d).2.T] := by
  rw [← h]; rfl
theorem e41 : eqI 4 1 = false := by rw [eqI_def]; rfl
theorem e31 : eqI 3 1 = false := by rw [eqI_def]; rfl
theorem e21 : eqI 2 1 = false := by rw [eqI_def]; rfl
theorem wz1 : IntKind.i64.wrap 1 = 1 := rfl
theorem wz2 : IntKind.i64.wrap 2 = 2 := rfl
theorem wz3 : IntKind.i64.wrap 3 = 3 := rfl
theorem wz4 : IntKind.i64.wrap 4 = 4 := rfl
theorem wz5 : IntKind.i64.wrap 5 = 5 := rfl
theorem wz6 : IntKind.i64.wrap 6 = 6 := rfl
theorem wz7 : IntKind.i64.wrap 7 = 7 := rfl
theorem w01 : IntKind.i64.wrap (0 + 1) = 1 := rfl
theorem w11 : IntKind.i64.wrap (1 + 1) = 2 := rfl
theorem w21 : IntKind.i64.wrap (2 + 1) = 3 := rfl
theorem w31 : IntKind.i64.wrap (3 + 1) = 4 := rfl
theorem w41 : IntKind.i64.wrap (4 + 1) = 5 := rfl
theorem w51 : IntKind.i64.wrap (5 + 1) = 6 := rfl
theorem w61 : IntKind.i64.wrap (6 + 1) = 7 := rfl
theorem ok66 (a b : Int) : FnOk Try.prog tgl 66 [.int .u64 a, .int .u64 b] (.bool (ltI 0 (wi (wu (a - b))))) := by
  refine fn_ok (Γ := E3) env_E3 Try.func66 low66 ?_
  conv => whnf
  repeat' (first | (refine brK_true rfl ?_; conv => whnf) | (refine brK_false rfl ?_; conv => whnf) | (refine brK_true (by assumption) ?_; conv => whnf) | (refine brK_false (by assumption) ?_; conv => whnf) | (refine brK_of (fun h => ?_) (fun h => ?_) <;> conv => whnf) | (refine reqK_of ?_ ?_; (focus (first | decide | omega | assumption | (simp [keyNew, sameKey, kEq] <;> omega))); conv => whnf) | (refine reqK_of ?_ ?_; rotate_left; (conv => whnf); rotate_left))
open Classical in
noncomputable def c66 : List T → Ans
  | [.int .u64 a, .int .u64 b] => .yes (.bool (ltI 0 (wi (wu (a - b)))))
  | _ => .no
theorem got66 {vs : List T} {x : T} (h : Got (c66 vs) x) : FnOk Try.prog tgl 66 vs x := by
  unfold c66 at h
  split at h
  · rw [got_yes h]; exact ok66 _ _
  · exact (got_no h).elim
theorem nogl66 (vs : List T) (p : Prop) (d : Decidable p) (sz : Nat) (xs : List T) (h : c66 vs = @Ans.gl p d sz xs) : False := by
  unfold c66 at h
  split at h <;> cases h
theorem pk66 (vs : List T) (p : Prop) (d : Decidable p) (x : T) (h : c66 vs = @Ans.pk p d x) (hp : p) : FnOk Try.prog tgl 66 vs x := by
  unfold c66 at h
  split at h
  · cases h
  · cases h
theorem ok67 (kind pc base cap b t x out : Int) : FnOk Try.prog tgl 67 [.ref [.int .i64 kind, .int .i64 pc, .int .i64 base, .int .i64 cap, .int .u64 b, .int .u64 t, .int .i64 x, .int .i64 out]] (.int .u64 (wu (maxI cap 1))) := by
  refine fn_ok (Γ := E3) env_E3 Try.func67 low67 ?_
  conv => whnf
  repeat' (first | (refine brK_true rfl ?_; conv => whnf) | (refine brK_false rfl ?_; conv => whnf) | (refine brK_true (by assumption) ?_; conv => whnf) | (refine brK_false (by assumption) ?_; conv => whnf) | (refine brK_of (fun h => ?_) (fun h => ?_) <;> conv => whnf) | (refine reqK_of ?_ ?_; (focus (first | decide | omega | assumption | (simp [keyNew, sameKey, kEq] <;> omega))); conv => whnf) | (refine reqK_of ?_ ?_; rotate_left; (conv => whnf); rotate_left))
open Classical in
noncomputable def c67 : List T → Ans
  | [.ref [.int .i64 kind, .int .i64 pc, .int .i64 base, .int .i64 cap, .int .u64 b, .int .u64 t, .int .i64 x, .int .i64 out]] => .pk True (.int .u64 (wu (maxI cap 1)))
  | _ => .no
theorem got67 {vs : List T} {x : T} (h : Got (c67 vs) x) : FnOk Try.prog tgl 67 vs x := by
  unfold c67 at h
  split at h
  · exact (got_pk h).elim
  · exact (got_no h).elim
theorem nogl67 (vs : List T) (p : Prop) (d : Decidable p) (sz : Nat) (xs : List T) (h : c67 vs = @Ans.gl p d sz xs) : False := by
  unfold c67 at h
  split at h <;> cases h
theorem pk67 (vs : List T) (p : Prop) (d : Decidable p) (x : T) (h : c67 vs = @Ans.pk p d x) (hp : p) : FnOk Try.prog tgl 67 vs x := by
  unfold c67 at h
  split at h
  · cases h; exact ok67 _ _ _ _ _ _ _ _
  · cases h
theorem ok64 (kind pc base cap b t x out : Int) : FnOk Try.prog tgl 64 [.ref [.int .i64 kind, .int .i64 pc, .int .i64 base, .int .i64 cap, .int .u64 b, .int .u64 t, .int .i64 x, .int .i64 out]] (.int .i64 base) := by
  refine fn_ok (Γ := E3) env_E3 Try.func64 low64 ?_
  conv => whnf
  repeat' (first | (refine brK_true rfl ?_; conv => whnf) | (refine brK_false rfl ?_; conv => whnf) | (refine brK_true (by assumption) ?_; conv => whnf) | (refine brK_false (by assumption) ?_; conv => whnf) | (refine brK_of (fun h => ?_) (fun h => ?_) <;> conv => whnf) | (refine reqK_of ?_ ?_; (focus (first | decide | omega | assumption | (simp [keyNew, sameKey, kEq] <;> omega))); conv => whnf) | (refine reqK_of ?_ ?_; rotate_left; (conv => whnf); rotate_left))
open Classical in
noncomputable def c64 : List T → Ans
  | [.ref [.int .i64 kind, .int .i64 pc, .int .i64 base, .int .i64 cap, .int .u64 b, .int .u64 t, .int .i64 x, .int .i64 out]] => .pk True (.int .i64 base)
  | _ => .no
theorem got64 {vs : List T} {x : T} (h : Got (c64 vs) x) : FnOk Try.prog tgl 64 vs x := by
  unfold c64 at h
  split at h
  · exact (got_pk h).elim
  · exact (got_no h).elim
theorem nogl64 (vs : List T) (p : Prop) (d : Decidable p) (sz : Nat) (xs : List T) (h : c64 vs = @Ans.gl p d sz xs) : False := by
  unfold c64 at h
  split at h <;> cases h
theorem pk64 (vs : List T) (p : Prop) (d : Decidable p) (x : T) (h : c64 vs = @Ans.pk p d x) (hp : p) : FnOk Try.prog tgl 64 vs x := by
  unfold c64 at h
  split at h
  · cases h; exact ok64 _ _ _ _ _ _ _ _
  · cases h
theorem ok65 (kind pc base cap b t x out : Int) : FnOk Try.prog tgl 65 [.ref [.int .i64 kind, .int .i64 pc, .int .i64 base, .int .i64 cap, .int .u64 b, .int .u64 t, .int .i64 x, .int .i64 out]] (.int .i64 (wi (base + 1))) := by
  refine fn_ok (Γ := E3) env_E3 Try.func65 low65 ?_
  conv => whnf
  repeat' (first | (refine brK_true rfl ?_; conv => whnf) | (refine brK_false rfl ?_; conv => whnf) | (refine brK_true (by assumption) ?_; conv => whnf) | (refine brK_false (by assumption) ?_; conv => whnf) | (refine brK_of (fun h => ?_) (fun h => ?_) <;> conv => whnf) | (refine reqK_of ?_ ?_; (focus (first | decide | omega | assumption | (simp [keyNew, sameKey, kEq] <;> omega))); conv => whnf) | (refine reqK_of ?_ ?_; rotate_left; (conv => whnf); rotate_left))
open Classical in
noncomputable def c65 : List T → Ans
  | [.ref [.int .i64 kind, .int .i64 pc, .int .i64 base, .int .i64 cap, .int .u64 b, .int .u64 t, .int .i64 x, .int .i64 out]] => .pk True (.int .i64 (wi (base + 1)))
  | _ => .no
theorem got65 {vs : List T} {x : T} (h : Got (c65 vs) x) : FnOk Try.prog tgl 65 vs x := by
  unfold c65 at h
  split at h
  · exact (got_pk h).elim
  · exact (got_no h).elim
theorem nogl65 (vs : List T) (p : Prop) (d : Decidable p) (sz : Nat) (xs : List T) (h : c65 vs = @Ans.gl p d sz xs) : False := by
  unfold c65 at h
  split at h <;> cases h
theorem pk65 (vs : List T) (p : Prop) (d : Decidable p) (x : T) (h : c65 vs = @Ans.pk p d x) (hp : p) : FnOk Try.prog tgl 65 vs x := by
  unfold c65 at h
  split at h
  · cases h; exact ok65 _ _ _ _ _ _ _ _
  · cases h
def endX (kind x o : Int) : Int := if eqI o 1 = true then x else if eqI kind 1 = true then x else 0
def blkD (kind pc base cap b t x out : Int) : Blk := .cells [.t (.int .i64 kind), .t (.int .i64 pc), .t (.int .i64 base), .t (.int .i64 cap), .t (.int .u64 b), .t (.int .u64 t), .t (.int .i64 x), .t (.int .i64 out)]
def blkZ : Blk := .cells [.t (.int .i64 0), .t (.int .i64 0), .t (.int .i64 0), .t (.int .i64 0), .t (.int .u64 0), .t (.int .u64 0), .t (.int .i64 0), .t (.int .i64 0)]
theorem inlEnd {kind pc base cap b t x out o : Int} {bs : Nat} {R : V → Own → Prop} (hR : R (.t (.tup [])) [(69, blkZ), (67, blkD kind pc base cap b t (endX kind x o) o)]) :
    inl E3 m119 bs [.ptr 67 0, .t (.int .i64 o)] [(69, blkZ), (67, blkD kind pc base cap b t x out)] R := by
  unfold inl blkD blkZ
  conv => whnf
  repeat' (first
    | (refine brK_true rfl ?_; conv => whnf)
    | (refine brK_false rfl ?_; conv => whnf)
    | (refine brK_true (by assumption) ?_; conv => whnf)
    | (refine brK_false (by assumption) ?_; conv => whnf)
    | (refine brK_true ?_ ?_; (focus (simp only [List.length_nil, fx] <;> omega)); conv => whnf)
    | (refine brK_false ?_ ?_; (focus (simp only [List.length_nil, fx] <;> omega)); conv => whnf)
    | ((refine brK_of (fun h => ?_) (fun h => ?_)) <;> (have h2 := h; (try simp only [List.length_nil, fx] at h2); conv => whnf))
    | (refine reqK_of ?_ ?_; (focus (first | decide | omega | assumption | (simp only [List.length_nil, fx] <;> omega) | (simp [keyNew, sameKey, kEq] <;> omega))); conv => whnf)
    | (refine reqK_of ?_ ?_; rotate_left; (conv => whnf); rotate_left)
    | (refine nth_us ?_ ?_ ?_; (focus (first | omega | (simp only [List.length_nil, fx] <;> omega))); (focus (first | omega | (simp only [List.length_nil, fx] <;> omega))); conv => whnf)
    | (refine nth_is ?_ ?_ ?_; (focus (first | omega | (simp only [List.length_nil, fx] <;> omega))); (focus (first | omega | (simp only [List.length_nil, fx] <;> omega))); conv => whnf)
    | (refine nth_bs ?_ ?_ ?_; (focus (first | omega | (simp only [List.length_nil, fx] <;> omega))); (focus (first | omega | (simp only [List.length_nil, fx] <;> omega))); conv => whnf))
  all_goals refine cast (congrArg (R _) ?_) hR
  all_goals simp_all [endX, blkD, blkZ]
def ptEnd : Pt := fun bs args own R => ∃ kind pc base cap b t x out o, args = [.ptr 67 0, .t (.int .i64 o)] ∧ own = [(69, blkZ), (67, blkD kind pc base cap b t x out)] ∧ R (.t (.tup [])) [(69, blkZ), (67, blkD kind pc base cap b t (endX kind x o) o)]
theorem ptEnd_ok {base : Nat} {args : List V} {own : Own} {R : V → Own → Prop} (h : ptEnd base args own R) : FnV Try.prog tgl 119 args own R := by
  obtain ⟨kind, pc, bs, cap, b, t, x, out, o, rfl, rfl, hR⟩ := h
  exact inl_ok env_E3 Try.func119 low119 (inlEnd (bs := base) hR)
theorem env_pt {P : Program} {gl : Nat → Option (List T)} {l : List (Nat × (List T → Ans))} {il : List (Nat × Pt)} {n : Nat} {g : Pt} (h : EnvOk P (En gl l il)) (hg : ∀ base args own R, g base args own R → FnV P gl n args own R) : EnvOk P (En gl l ((n, g) :: il)) := by
  refine ⟨h.fn, h.gl, h.pk, fun f base args own R hi hR => ?_⟩
  have hR' : ptL ((n, g) :: il) f base args own R := hR
  have hi' : isL ((n, g) :: il) f = true := hi
  simp only [ptL] at hR'
  simp only [isL] at hi'
  cases e : Nat.beq n f with
  | true =>
    rw [e] at hR'
    rw [← Nat.eq_of_beq_eq_true e]
    exact hg base args own R hR'
  | false =>
    rw [e] at hR' hi'
    exact h.pt f base args own R hi' hR'
noncomputable def lE3e : List (Nat × (List T → Ans)) := lE3
noncomputable def iE3e : List (Nat × Pt) := (119, ptEnd) :: iE3
noncomputable abbrev E3e : Env := En tgl lE3e iE3e
theorem env_E3e : EnvOk Try.prog E3e := env_pt env_E3 fun _ _ _ _ => ptEnd_ok
noncomputable def lE4 : List (Nat × (List T → Ans)) := (66, c66) :: (67, c67) :: (64, c64) :: (65, c65) :: lE3e
noncomputable def iE4 : List (Nat × Pt) := (83, inl E3e m83) :: iE3e
noncomputable abbrev E4 : Env := En tgl lE4 iE4
theorem env_E4 : EnvOk Try.prog E4 := (env_fn (env_fn (env_fn (env_fn (env_in env_E3e env_E3e Try.func83 low83) (fun _ _ => got65) (fun vs p d sz xs h _ => (nogl65 vs p d sz xs h).elim) pk65) (fun _ _ => got64) (fun vs p d sz xs h _ => (nogl64 vs p d sz xs h).elim) pk64) (fun _ _ => got67) (fun vs p d sz xs h _ => (nogl67 vs p d sz xs h).elim) pk67) (fun _ _ => got66) (fun vs p d sz xs h _ => (nogl66 vs p d sz xs h).elim) pk66)
theorem ok68 (kind pc base cap b t x out i : Int) (hq : I64 cap) : FnOk Try.prog tgl 68 [.ref [.int .i64 kind, .int .i64 pc, .int .i64 base, .int .i64 cap, .int .u64 b, .int .u64 t, .int .i64 x, .int .i64 out], .int .u64 i] (.int .i64 (plR base cap i)) := by
  refine fn_ok (Γ := E4) env_E4 Try.func68 low68 ?_
  have hz := sz_ne hq
  conv => whnf
  repeat' (first
    | (refine brK_true rfl ?_; conv => whnf)
    | (refine brK_false rfl ?_; conv => whnf)
    | (refine brK_true (by assumption) ?_; conv => whnf)
    | (refine brK_false (by assumption) ?_; conv => whnf)
    | (refine brK_true ?_ ?_; (focus (simp only [List.length_nil, fx] <;> omega)); conv => whnf)
    | (refine brK_false ?_ ?_; (focus (simp only [List.length_nil, fx] <;> omega)); conv => whnf)
    | ((refine brK_of (fun h => ?_) (fun h => ?_)) <;> (have h2 := h; (try simp only [List.length_nil, fx] at h2); conv => whnf))
    | (refine reqK_of ?_ ?_; (focus (first | decide | omega | assumption | (simp only [List.length_nil, fx] <;> omega) | (simp [keyNew, sameKey, kEq] <;> omega))); conv => whnf)
    | (refine reqK_of ?_ ?_; rotate_left; (conv => whnf); rotate_left)
    | (refine nth_us ?_ ?_ ?_; (focus (first | omega | (simp only [List.length_nil, fx] <;> omega))); (focus (first | omega | (simp only [List.length_nil, fx] <;> omega))); conv => whnf)
    | (refine nth_is ?_ ?_ ?_; (focus (first | omega | (simp only [List.length_nil, fx] <;> omega))); (focus (first | omega | (simp only [List.length_nil, fx] <;> omega))); conv => whnf)
    | (refine nth_bs ?_ ?_ ?_; (focus (first | omega | (simp only [List.length_nil, fx] <;> omega))); (focus (first | omega | (simp only [List.length_nil, fx] <;> omega))); conv => whnf))
  rfl
open Classical in
noncomputable def c68 : List T → Ans
  | [.ref [.int .i64 kind, .int .i64 pc, .int .i64 base, .int .i64 cap, .int .u64 b, .int .u64 t, .int .i64 x, .int .i64 out], .int .u64 i] => .pk (I64 cap) (.int .i64 (plR base cap i))
  | _ => .no
theorem got68 {vs : List T} {x : T} (h : Got (c68 vs) x) : FnOk Try.prog tgl 68 vs x := by
  unfold c68 at h
  split at h
  · exact (got_pk h).elim
  · exact (got_no h).elim
theorem nogl68 (vs : List T) (p : Prop) (d : Decidable p) (sz : Nat) (xs : List T) (h : c68 vs = @Ans.gl p d sz xs) : False := by
  unfold c68 at h
  split at h <;> cases h
theorem pk68 (vs : List T) (p : Prop) (d : Decidable p) (x : T) (h : c68 vs = @Ans.pk p d x) (hp : p) : FnOk Try.prog tgl 68 vs x := by
  unfold c68 at h
  split at h
  · cases h; exact ok68 _ _ _ _ _ _ _ _ _ hp
  · cases h
noncomputable def lE5 : List (Nat × (List T → Ans)) := (68, c68) :: lE4
noncomputable def iE5 : List (Nat × Pt) := (121, inl E4 m121) :: iE4
noncomputable abbrev E5 : Env := En tgl lE5 iE5
theorem env_E5 : EnvOk Try.prog E5 := (env_fn (env_in env_E4 env_E4 Try.func121 low121) (fun _ _ => got68) (fun vs p d sz xs h _ => (nogl68 vs p d sz xs h).elim) pk68)
noncomputable def lE6 : List (Nat × (List T → Ans)) := lE5
noncomputable def iE6 : List (Nat × Pt) := (94, inl E5 m94) :: (95, inl E5 m95) :: (96, inl E5 m96) :: (97, inl E5 m97) :: (98, inl E5 m98) :: (99, inl E5 m99) :: (100, inl E5 m100) :: (101, inl E5 m101) :: (102, inl E5 m102) :: (103, inl E5 m103) :: (104, inl E5 m104) :: (105, inl E5 m105) :: (106, inl E5 m106) :: (107, inl E5 m107) :: iE5
noncomputable abbrev E6 : Env := En tgl lE6 iE6
theorem env_E6 : EnvOk Try.prog E6 := (env_in (env_in (env_in (env_in (env_in (env_in (env_in (env_in (env_in (env_in (env_in (env_in (env_in (env_in env_E5 env_E5 Try.func107 low107) env_E5 Try.func106 low106) env_E5 Try.func105 low105) env_E5 Try.func104 low104) env_E5 Try.func103 low103) env_E5 Try.func102 low102) env_E5 Try.func101 low101) env_E5 Try.func100 low100) env_E5 Try.func99 low99) env_E5 Try.func98 low98) env_E5 Try.func97 low97) env_E5 Try.func96 low96) env_E5 Try.func95 low95) env_E5 Try.func94 low94)
theorem nth_c4 {a b c d : T} {z : Int} {K : T → Prop} (h0 : 0 ≤ z) (h1 : z < 4) (ha : z = 0 → K a) (hb : z = 1 → K b) (hc : z = 2 → K c) (hd : z = 3 → K d) : nthK [a, b, c, d] z K := by
  rcases (by omega : z = 0 ∨ z = 1 ∨ z = 2 ∨ z = 3) with h | h | h | h
  · exact nthK_of a h0 (by rw [h]; rfl) (ha h)
  · exact nthK_of b h0 (by rw [h]; rfl) (hb h)
  · exact nthK_of c h0 (by rw [h]; rfl) (hc h)
  · exact nthK_of d h0 (by rw [h]; rfl) (hd h)
theorem nth_c7 {a b c d e f g : T} {z : Int} {K : T → Prop} (h0 : 0 ≤ z) (h1 : z < 7) (ha : z = 0 → K a) (hb : z = 1 → K b) (hc : z = 2 → K c) (hd : z = 3 → K d) (he : z = 4 → K e) (hf : z = 5 → K f) (hg : z = 6 → K g) : nthK [a, b, c, d, e, f, g] z K := by
  rcases (by omega : z = 0 ∨ z = 1 ∨ z = 2 ∨ z = 3 ∨ z = 4 ∨ z = 5 ∨ z = 6) with h | h | h | h | h | h | h
  · exact nthK_of a h0 (by rw [h]; rfl) (ha h)
  · exact nthK_of b h0 (by rw [h]; rfl) (hb h)
  · exact nthK_of c h0 (by rw [h]; rfl) (hc h)
  · exact nthK_of d h0 (by rw [h]; rfl) (hd h)
  · exact nthK_of e h0 (by rw [h]; rfl) (he h)
  · exact nthK_of f h0 (by rw [h]; rfl) (hf h)
  · exact nthK_of g h0 (by rw [h]; rfl) (hg h)
theorem ok62 (xs : List T) (kind pc base cap b t x out : Int) (hq : (IsU xs ∧ Sz xs) ∧ I64 cap) : FnOk Try.prog tgl 62 [.list 1 xs, .agg [.int .i64 kind, .int .i64 pc, .int .i64 base, .int .i64 cap, .int .u64 b, .int .u64 t, .int .i64 x, .int .i64 out]] (.tup [.list 1 (us (dstep (nums xs) ⟨kind, pc, base, cap, b, t, x, out⟩).1), (dstep (nums xs) ⟨kind, pc, base, cap, b, t, x, out⟩).2.T]) := by
  refine fn_ok (Γ := E6) env_E6 Try.func62 low62 ?_
  obtain ⟨hq', hcap⟩ := hq
  have hq1 := hq'
  obtain ⟨⟨l, rfl, hl⟩, hs⟩ := hq'
  have hz := sz_ne hcap
  have n1 := nums_us l
  rw [n1]
  conv => whnf
  repeat' (first
    | (refine brK_true rfl ?_; conv => whnf)
    | (refine brK_false rfl ?_; conv => whnf)
    | (refine brK_true (by assumption) ?_; conv => whnf)
    | (refine brK_false (by assumption) ?_; conv => whnf)
    | (refine brK_true ?_ ?_; (focus (simp only [List.length_nil, fx] <;> omega)); conv => whnf)
    | (refine brK_false ?_ ?_; (focus (simp only [List.length_nil, fx] <;> omega)); conv => whnf)
    | ((refine brK_of (fun h => ?_) (fun h => ?_)) <;> (have h2 := h; (try simp only [List.length_nil, fx] at h2); conv => whnf))
    | (refine reqK_of ?_ ?_; (focus (first | decide | omega | assumption | (simp only [List.length_nil, fx] <;> omega) | (simp [keyNew, sameKey, kEq] <;> omega))); conv => whnf)
    | (refine reqK_of ?_ ?_; rotate_left; (conv => whnf); rotate_left)
    | (refine nth_us ?_ ?_ ?_; (focus (first | omega | (simp only [List.length_nil, fx] <;> omega))); (focus (first | omega | (simp only [List.length_nil, fx] <;> omega))); conv => whnf)
    | (refine nth_is ?_ ?_ ?_; (focus (first | omega | (simp only [List.length_nil, fx] <;> omega))); (focus (first | omega | (simp only [List.length_nil, fx] <;> omega))); conv => whnf)
    | (refine nth_bs ?_ ?_ ?_; (focus (first | omega | (simp only [List.length_nil, fx] <;> omega))); (focus (first | omega | (simp only [List.length_nil, fx] <;> omega))); conv => whnf))
  all_goals first
    | (refine nth_c4 ?_ ?_ (fun e => ?_) (fun e => ?_) (fun e => ?_) (fun e => ?_))
    | (refine nth_c7 ?_ ?_ (fun e => ?_) (fun e => ?_) (fun e => ?_) (fun e => ?_) (fun e => ?_) (fun e => ?_) (fun e => ?_))
    | skip
  all_goals first
    | (simp only [List.length_cons, List.length_nil] at *; omega)
    | skip
  all_goals
      conv => whnf
      repeat' (first
        | (refine brK_true rfl ?_; conv => whnf)
        | (refine brK_false rfl ?_; conv => whnf)
        | (refine brK_true (by assumption) ?_; conv => whnf)
        | (refine brK_false (by assumption) ?_; conv => whnf)
        | (refine brK_true ?_ ?_; (focus (simp only [List.length_nil, fx] <;> omega)); conv => whnf)
        | (refine brK_false ?_ ?_; (focus (simp only [List.length_nil, fx] <;> omega)); conv => whnf)
        | ((refine brK_of (fun h => ?_) (fun h => ?_)) <;> (have h2 := h; (try simp only [List.length_nil, fx] at h2); conv => whnf))
        | (refine reqK_of ?_ ?_; (focus (first | decide | omega | assumption | (simp only [List.length_nil, fx] <;> omega) | (simp [keyNew, sameKey, kEq] <;> omega))); conv => whnf)
        | (refine reqK_of ?_ ?_; rotate_left; (conv => whnf); rotate_left)
        | (refine nth_us ?_ ?_ ?_; (focus (first | omega | (simp only [List.length_nil, fx] <;> omega))); (focus (first | omega | (simp only [List.length_nil, fx] <;> omega))); conv => whnf)
        | (refine nth_is ?_ ?_ ?_; (focus (first | omega | (simp only [List.length_nil, fx] <;> omega))); (focus (first | omega | (simp only [List.length_nil, fx] <;> omega))); conv => whnf)
        | (refine nth_bs ?_ ?_ ?_; (focus (first | omega | (simp only [List.length_nil, fx] <;> omega))); (focus (first | omega | (simp only [List.length_nil, fx] <;> omega))); conv => whnf))
  all_goals first
    | (refine ⟨_, _, _, _, _, _, _, _, _, rfl, rfl, ?_⟩)
    | skip
  all_goals
      conv => whnf
      repeat' (first
        | (refine brK_true rfl ?_; conv => whnf)
        | (refine brK_false rfl ?_; conv => whnf)
        | (refine brK_true (by assumption) ?_; conv => whnf)
        | (refine brK_false (by assumption) ?_; conv => whnf)
        | (refine brK_true ?_ ?_; (focus (simp only [List.length_nil, fx] <;> omega)); conv => whnf)
        | (refine brK_false ?_ ?_; (focus (simp only [List.length_nil, fx] <;> omega)); conv => whnf)
        | ((refine brK_of (fun h => ?_) (fun h => ?_)) <;> (have h2 := h; (try simp only [List.length_nil, fx] at h2); conv => whnf))
        | (refine reqK_of ?_ ?_; (focus (first | decide | omega | assumption | (simp only [List.length_nil, fx] <;> omega) | (simp [keyNew, sameKey, kEq] <;> omega))); conv => whnf)
        | (refine reqK_of ?_ ?_; rotate_left; (conv => whnf); rotate_left)
        | (refine nth_us ?_ ?_ ?_; (focus (first | omega | (simp only [List.length_nil, fx] <;> omega))); (focus (first | omega | (simp only [List.length_nil, fx] <;> omega))); conv => whnf)
        | (refine nth_is ?_ ?_ ?_; (focus (first | omega | (simp only [List.length_nil, fx] <;> omega))); (focus (first | omega | (simp only [List.length_nil, fx] <;> omega))); conv => whnf)
        | (refine nth_bs ?_ ?_ ?_; (focus (first | omega | (simp only [List.length_nil, fx] <;> omega))); (focus (first | omega | (simp only [List.length_nil, fx] <;> omega))); conv => whnf))
  all_goals first
    | (refine dstep_eq ?_; clear hq1 hl hs; simp only [List.length_cons, List.length_nil, nums_us] at *; simp_all [e41, e31, e21, dstep, plR, endX, w01, w11, w21, w31, w41, w51, w61, wz1, wz2, wz3, wz4, wz5, wz6, wz7] <;> fail)
    | (refine dstep_eq ?_; clear hq1 hl hs; simp only [List.length_cons, List.length_nil, nums_us] at *; have p0 : pc ≠ 0 := (by omega); have p1 : pc ≠ 1 := (by omega); have p2 : pc ≠ 2 := (by omega); have p3 : pc ≠ 3 := (by omega); simp_all [dstep] <;> fail)
    | (refine dstep_eq ?_; clear hq1 hl hs; simp only [List.length_cons, List.length_nil, nums_us] at *; have p0 : pc ≠ 0 := (by omega); have p1 : pc ≠ 1 := (by omega); have p2 : pc ≠ 2 := (by omega); have p3 : pc ≠ 3 := (by omega); have p4 : pc ≠ 4 := (by omega); have p5 : pc ≠ 5 := (by omega); have p6 : pc ≠ 6 := (by omega); simp_all [dstep] <;> fail)
    | trace_state
open Classical in
noncomputable def c62 : List T → Ans
  | [.list 1 xs, .agg [.int .i64 kind, .int .i64 pc, .int .i64 base, .int .i64 cap, .int .u64 b, .int .u64 t, .int .i64 x, .int .i64 out]] => .req ((IsU xs ∧ Sz xs) ∧ I64 cap) (.tup [.list 1 (us (dstep (nums xs) ⟨kind, pc, base, cap, b, t, x, out⟩).1), (dstep (nums xs) ⟨kind, pc, base, cap, b, t, x, out⟩).2.T])
  | _ => .no
theorem got62 {vs : List T} {x : T} (h : Got (c62 vs) x) : FnOk Try.prog tgl 62 vs x := by
  unfold c62 at h
  split at h
  · obtain ⟨hq, e⟩ := got_req h; rw [e]; exact ok62 _ _ _ _ _ _ _ _ _ hq
  · exact (got_no h).elim
theorem nogl62 (vs : List T) (p : Prop) (d : Decidable p) (sz : Nat) (xs : List T) (h : c62 vs = @Ans.gl p d sz xs) : False := by
  unfold c62 at h
  split at h <;> cases h
theorem pk62 (vs : List T) (p : Prop) (d : Decidable p) (x : T) (h : c62 vs = @Ans.pk p d x) (hp : p) : FnOk Try.prog tgl 62 vs x := by
  unfold c62 at h
  split at h
  · cases h
  · cases h
end Go.Nx
