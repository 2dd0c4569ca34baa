/-
  A MACHINE's STEP.
-/
import Derived.Test.YtommbfigioeghaaEb
set_option linter.unusedVariables false
set_option linter.unusedSimpArgs false
set_option maxRecDepth 20000
set_option maxHeartbeats 4000000
namespace Go.Nx
open Go.RowKit Go.Proofs

def ldV (l : List Int) (i : Int) : Int := doV l 1 i
def stL (l : List Int) (i v : Int) : List Int := doL l 2 i v 0
theorem at0_R {l : List Int} (hl : ∀ n ∈ l, R64 n) {i : Int} (h : i.toNat < l.length) : R64 (at0 l i) := hl _ (at0_mem h)
theorem doV_R {l : List Int} (hl : ∀ n ∈ l, R64 n) (k i : Int) : R64 (doV l k i) := by
  unfold doV
  repeat' split
  · exact at0_R hl (by omega)
  · unfold R64; omega
  · unfold R64; omega
theorem set_R {l : List Int} (hl : ∀ n ∈ l, R64 n) (i : Nat) {a : Int} (ha : R64 a) : ∀ n ∈ l.set i a, R64 n := fun n hn => by
  rcases List.mem_or_eq_of_mem_set hn with h | rfl
  · exact hl n h
  · exact ha
theorem wrapu_R (n : Int) : R64 (IntKind.u64.wrap n) := by rw [wrap_iv]; exact R_iv _
theorem doL_R {l : List Int} (hl : ∀ n ∈ l, R64 n) (k i : Int) {a b : Int} (ha : R64 a) (hb : R64 b) : ∀ n ∈ doL l k i a b, R64 n := by
  unfold doL
  repeat' split
  all_goals first
    | exact hl
    | exact set_R hl _ ha
    | exact set_R hl _ hb
    | exact set_R hl _ (wrapu_R _)
theorem doL_len (l : List Int) (k i a b : Int) : (doL l k i a b).length = l.length := by
  unfold doL
  repeat' split
  all_goals simp
noncomputable def lE2 : List (Nat × (List T → Ans)) := (69, c69) :: lE1
noncomputable def iE2 : List (Nat × Pt) := iE1
noncomputable abbrev E2 : Env := En tgl lE2 iE2
theorem env_E2 : EnvOk Try.prog E2 := (env_fn env_E1 (fun _ _ => got69) (fun vs p d sz xs h _ => (nogl69 vs p d sz xs h).elim) pk69)
theorem ok75 (xs : List T) (i : Int) (hq : IsU xs ∧ Sz xs) : FnOk Try.prog tgl 75 [.list 1 xs, .int .i64 i] (.int .u64 (ldV (nums xs) i)) := by
  refine fn_ok (Γ := E2) env_E2 Try.func75 low75 ?_
  conv => whnf
  repeat' (first | (refine brK_true (by assumption) ?_; conv => whnf) | (refine brK_false (by assumption) ?_; conv => whnf) | (refine brK_of (fun h => ?_) (fun h => ?_) <;> conv => whnf) | (refine reqK_of ?_ ?_; (focus (first | decide | omega | assumption | (simp [keyNew, sameKey, kEq] <;> omega))); conv => whnf) | (refine reqK_of ?_ ?_; rotate_left; (conv => whnf); rotate_left))
  rfl
open Classical in
noncomputable def c75 : List T → Ans
  | [.list 1 xs, .int .i64 i] => .req (IsU xs ∧ Sz xs) (.int .u64 (ldV (nums xs) i))
  | _ => .no
theorem got75 {vs : List T} {x : T} (h : Got (c75 vs) x) : FnOk Try.prog tgl 75 vs x := by
  unfold c75 at h
  split at h
  · obtain ⟨hq, e⟩ := got_req h; rw [e]; exact ok75 _ _ hq
  · exact (got_no h).elim
theorem nogl75 (vs : List T) (p : Prop) (d : Decidable p) (sz : Nat) (xs : List T) (h : c75 vs = @Ans.gl p d sz xs) : False := by
  unfold c75 at h
  split at h <;> cases h
theorem pk75 (vs : List T) (p : Prop) (d : Decidable p) (x : T) (h : c75 vs = @Ans.pk p d x) (hp : p) : FnOk Try.prog tgl 75 vs x := by
  unfold c75 at h
  split at h
  · cases h
  · cases h
theorem ok70 (xs : List T) (i v : Int) (hq : IsU xs ∧ Sz xs) : FnOk Try.prog tgl 70 [.list 1 xs, .int .i64 i, .int .u64 v] (.list 1 (us (stL (nums xs) i v))) := by
  refine fn_ok (Γ := E2) env_E2 Try.func70 low70 ?_
  conv => whnf
  repeat' (first | (refine brK_true (by assumption) ?_; conv => whnf) | (refine brK_false (by assumption) ?_; conv => whnf) | (refine brK_of (fun h => ?_) (fun h => ?_) <;> conv => whnf) | (refine reqK_of ?_ ?_; (focus (first | decide | omega | assumption | (simp [keyNew, sameKey, kEq] <;> omega))); conv => whnf) | (refine reqK_of ?_ ?_; rotate_left; (conv => whnf); rotate_left))
  rfl
open Classical in
noncomputable def c70 : List T → Ans
  | [.list 1 xs, .int .i64 i, .int .u64 v] => .req (IsU xs ∧ Sz xs) (.list 1 (us (stL (nums xs) i v)))
  | _ => .no
theorem got70 {vs : List T} {x : T} (h : Got (c70 vs) x) : FnOk Try.prog tgl 70 vs x := by
  unfold c70 at h
  split at h
  · obtain ⟨hq, e⟩ := got_req h; rw [e]; exact ok70 _ _ _ hq
  · exact (got_no h).elim
theorem nogl70 (vs : List T) (p : Prop) (d : Decidable p) (sz : Nat) (xs : List T) (h : c70 vs = @Ans.gl p d sz xs) : False := by
  unfold c70 at h
  split at h <;> cases h
theorem pk70 (vs : List T) (p : Prop) (d : Decidable p) (x : T) (h : c70 vs = @Ans.pk p d x) (hp : p) : FnOk Try.prog tgl 70 vs x := by
  unfold c70 at h
  split at h
  · cases h
  · cases h
def vn (h : Int) : Int := IntKind.u64.wrap (shrI .u64 h 32 + 1)
structure Mach where
  kind : Int
  pc : Int
  head : Int
  next : Int
  h : Int
  x : Int
  y : Int
  out : Int
def Mach.T (c : Mach) : Nx.T := .agg [.int .i64 c.kind, .int .i64 c.pc, .int .i64 c.head, .int .i64 c.next, .int .u64 c.h, .int .i64 c.x, .int .i64 c.y, .int .i64 c.out]
def act (c : Mach) : Prop := c.out = 0 ∧ (c.kind = 1 ∨ c.kind = 2) ∧ 0 ≤ c.pc ∧ c.pc ≤ 2
instance (c : Mach) : Decidable (act c) := by unfold act; infer_instance
def stepL (l : List Int) (c : Mach) : List Int :=
  if act c then (if c.pc = 0 then l else if c.pc = 1 then (if c.kind = 1 then stL l (IntKind.i64.wrap (c.next + c.x)) (nd c.h) else l) else doL l 3 c.head c.h (pk (vn c.h) (if c.kind = 2 then c.y else c.x))) else l
def stepC (l : List Int) (c : Mach) : Mach :=
  if act c then
    (if c.pc = 0 then ⟨c.kind, 1, c.head, c.next, ldV l c.head, c.x, c.y, if c.kind = 2 ∧ nd (ldV l c.head) = 0 then 2 else 0⟩
     else if c.pc = 1 then (if c.kind = 1 then ⟨c.kind, 2, c.head, c.next, c.h, c.x, c.y, 0⟩ else ⟨c.kind, 2, c.head, c.next, c.h, c.x, IntKind.i64.wrap (ldV l (IntKind.i64.wrap (c.next + nd c.h))), 0⟩)
     else if doB l 3 c.head c.h = true then ⟨c.kind, 3, c.head, c.next, c.h, if c.kind = 2 then nd c.h else c.x, c.y, 1⟩ else ⟨c.kind, 0, c.head, c.next, c.h, c.x, c.y, 0⟩) else c
noncomputable def lE3 : List (Nat × (List T → Ans)) := (75, c75) :: (70, c70) :: lE2
noncomputable def iE3 : List (Nat × Pt) := iE2
noncomputable abbrev E3 : Env := En tgl lE3 iE3
theorem env_E3 : EnvOk Try.prog E3 := (env_fn (env_fn env_E2 (fun _ _ => got70) (fun vs p d sz xs h _ => (nogl70 vs p d sz xs h).elim) pk70) (fun _ _ => got75) (fun vs p d sz xs h _ => (nogl75 vs p d sz xs h).elim) pk75)
noncomputable def lE4 : List (Nat × (List T → Ans)) := lE3
noncomputable def iE4 : List (Nat × Pt) := (71, inl E3 m71) :: (72, inl E3 m72) :: (73, inl E3 m73) :: (74, inl E3 m74) :: iE3
noncomputable abbrev E4 : Env := En tgl lE4 iE4
theorem env_E4 : EnvOk Try.prog E4 := (env_in (env_in (env_in (env_in env_E3 env_E3 Try.func74 low74) env_E3 Try.func73 low73) env_E3 Try.func72 low72) env_E3 Try.func71 low71)
theorem step_eq {l X : List Int} {c : Mach} {a1 a2 a3 a4 a5 a6 a7 a8 : Int} (h : X = stepL l c ∧ Mach.mk a1 a2 a3 a4 a5 a6 a7 a8 = stepC l c) :
    T.tup [.list 1 (us X), .agg [.int .i64 a1, .int .i64 a2, .int .i64 a3, .int .i64 a4, .int .u64 a5, .int .i64 a6, .int .i64 a7, .int .i64 a8]] = .tup [.list 1 (us (stepL l c)), (stepC l c).T] := by
  obtain ⟨rfl, h⟩ := h
  rw [← h]; rfl
theorem w0 : IntKind.i64.wrap 0 = 0 := rfl
theorem w1 : IntKind.i64.wrap 1 = 1 := rfl
theorem w2 : IntKind.i64.wrap 2 = 2 := rfl
theorem w3 : IntKind.i64.wrap 3 = 3 := rfl
theorem w01 : IntKind.i64.wrap (0 + 1) = 1 := rfl
theorem w11 : IntKind.i64.wrap (1 + 1) = 2 := rfl
theorem w21 : IntKind.i64.wrap (2 + 1) = 3 := rfl
theorem wm1 : IntKind.i64.wrap (-1 + 1) = 0 := rfl
theorem ok42 (xs : List T) (kind pc head next hh x y out : Int) (hq : IsU xs ∧ Sz xs) : FnOk Try.prog tgl 42 [.list 1 xs, .agg [.int .i64 kind, .int .i64 pc, .int .i64 head, .int .i64 next, .int .u64 hh, .int .i64 x, .int .i64 y, .int .i64 out]] (.tup [.list 1 (us (stepL (nums xs) ⟨kind, pc, head, next, hh, x, y, out⟩)), (stepC (nums xs) ⟨kind, pc, head, next, hh, x, y, out⟩).T]) := by
  refine fn_ok (Γ := E4) env_E4 Try.func42 low42 ?_
  have hq' := hq
  obtain ⟨⟨l, rfl, hl⟩, hs⟩ := hq
  rw [nums_us]
  conv => whnf
  repeat' (first | (refine brK_true (by assumption) ?_; conv => whnf) | (refine brK_false (by assumption) ?_; conv => whnf) | (refine brK_of (fun h => ?_) (fun h => ?_) <;> conv => whnf) | (refine reqK_of ?_ ?_; (focus (first | decide | omega | assumption | (simp [keyNew, sameKey, kEq] <;> omega))); conv => whnf) | (refine reqK_of ?_ ?_; rotate_left; (conv => whnf); rotate_left))
  all_goals simp only [nums_us, us_len, not_t, not_f, lt_t, lt_f, le_t, le_f, eq_t, eq_f, mask_low, wrap_nd, wrapu_nd] at *
  all_goals clear hq' hl hs
  all_goals first
    | (exfalso; omega)
    | (have hn : ¬ act ⟨kind, pc, head, next, hh, x, y, out⟩ := by simp only [act]; omega
       exact step_eq ⟨by rw [stepL, if_neg hn], by rw [stepC, if_neg hn]⟩)
    | (have ha : act ⟨kind, pc, head, next, hh, x, y, out⟩ := by simp only [act]; omega
       obtain rfl : out = 0 := ha.1
       first
         | (have e : pc = ((0 : Nat) : Int) := by assumption
            have e : pc = 0 := e
            subst e)
         | (have e : pc = ((1 : Nat) : Int) := by assumption
            have e : pc = 1 := e
            subst e)
         | (have e : pc = ((2 : Nat) : Int) := by assumption
            have e : pc = 2 := e
            subst e)
       first
         | (have e : kind = 2 := by assumption
            subst e)
         | (have e : kind = 1 := by assumption
            subst e)
       refine step_eq ⟨?_, ?_⟩
       · simp [stepL, ha, vn]
       · first
           | (have e2 : doB l 3 head hh = true := by assumption
              simp [stepC, ha, e2, w01, w11, w21, wm1, w1, w2, w3, w0] <;> fail)
           | (have e2 : doB l 3 head hh = false := by assumption
              simp [stepC, ha, e2, w01, w11, w21, wm1, w1, w2, w3, w0] <;> fail)
           | (have e2 : nd (ldV l head) = 0 := by assumption
              simp [stepC, ha, e2, w01, w11, w21, wm1, w1, w2, w3, w0] <;> fail)
           | (have e2 : nd (ldV l head) ≠ 0 := by assumption
              simp [stepC, ha, e2, w01, w11, w21, wm1, w1, w2, w3, w0] <;> fail)
           | (simp [stepC, ha, w01, w11, w21, wm1, w1, w2, w3, w0] <;> fail)
           | trace_state)
open Classical in
noncomputable def c42 : List T → Ans
  | [.list 1 xs, .agg [.int .i64 kind, .int .i64 pc, .int .i64 head, .int .i64 next, .int .u64 hh, .int .i64 x, .int .i64 y, .int .i64 out]] => .req (IsU xs ∧ Sz xs) (.tup [.list 1 (us (stepL (nums xs) ⟨kind, pc, head, next, hh, x, y, out⟩)), (stepC (nums xs) ⟨kind, pc, head, next, hh, x, y, out⟩).T])
  | _ => .no
theorem got42 {vs : List T} {x : T} (h : Got (c42 vs) x) : FnOk Try.prog tgl 42 vs x := by
  unfold c42 at h
  split at h
  · obtain ⟨hq, e⟩ := got_req h; rw [e]; exact ok42 _ _ _ _ _ _ _ _ _ hq
  · exact (got_no h).elim
theorem nogl42 (vs : List T) (p : Prop) (d : Decidable p) (sz : Nat) (xs : List T) (h : c42 vs = @Ans.gl p d sz xs) : False := by
  unfold c42 at h
  split at h <;> cases h
theorem pk42 (vs : List T) (p : Prop) (d : Decidable p) (x : T) (h : c42 vs = @Ans.pk p d x) (hp : p) : FnOk Try.prog tgl 42 vs x := by
  unfold c42 at h
  split at h
  · cases h
  · cases h
end Go.Nx
