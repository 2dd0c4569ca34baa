/-
  DEQUES: THE WORLD, STEP BY STEP.
-/
import Derived.Test.YtommbfigioeghaaGn
import Derived.Test.YtommbfigioeghaaBe
set_option linter.unusedVariables false
set_option linter.unusedSimpArgs false
set_option maxRecDepth 20000
set_option maxHeartbeats 16000000
namespace Go.Nx
open Go.RowKit Go.Proofs

instance : Inhabited DM := ⟨⟨0, 0, 0, 0, 0, 0, 0, 0⟩⟩
structure Wq where
  m : List Int
  cap : Int
  owner : DM
  thief : List DM
  pushed : List Int
  got : List Int
  next : Int
def dAt (l : List DM) (i : Int) : DM := l[i.toNat]?.getD default
def ds (l : List DM) : List T := l.map DM.T
@[simp] theorem ds_len (l : List DM) : (ds l).length = l.length := by simp [ds]
theorem ds_set (l : List DM) (i : Nat) (c : DM) : (ds l).set i c.T = ds (l.set i c) := by simp [ds, List.map_set]
theorem nth_ds {l : List DM} {i : Int} {K : T → Prop} (h0 : 0 ≤ i) (h1 : i < l.length) (h : K (dAt l i).T) : nthK (ds l) i K := by
  refine nthK_of (dAt l i).T h0 ?_ h
  have : i.toNat < l.length := by omega
  simp [ds, dAt, this]
theorem nth_dset {L : List T} {j : Nat} {c : T} {K : T → Prop} (h0 : (0 : Int) ≤ (j : Int)) (h1 : (j : Int) < L.length) (h : K c) : nthK (L.set j c) (j : Int) K := by
  refine nthK_of c h0 ?_ h
  have : j < L.length := by omega
  simp [this]
theorem dm_eta (c : DM) : (⟨c.kind, c.pc, c.base, c.cap, c.b, c.t, c.x, c.out⟩ : DM) = c := rfl
def pvT (nil : Bool) (l : List Int) : T := match nil with
  | true => .nils
  | false => .list 1 (is l)
def stD0 (cap : Int) : DM := ⟨3, 0, 0, cap, 0, 0, 0, 0⟩
def stealQ (w : Wq) (k : Nat) : Wq :=
  let r := dstep w.m (dAt w.thief k)
  ⟨r.1, w.cap, w.owner, w.thief.set k (if r.2.out ≠ 0 then stD0 w.cap else r.2), w.pushed, if r.2.out = 1 then addB w.got r.2.x 1 else w.got, w.next⟩
def ownQ (w : Wq) (a b : Bool) : Own := [(1001, .cells [.t (.list 1 (us w.m)), .t (.int .i64 w.cap), .t (.int .i64 w.owner.kind), .t (.int .i64 w.owner.pc), .t (.int .i64 w.owner.base), .t (.int .i64 w.owner.cap), .t (.int .u64 w.owner.b), .t (.int .u64 w.owner.t), .t (.int .i64 w.owner.x), .t (.int .i64 w.owner.out), .sl 1002 0 none, .t (pvT a w.pushed), .t (pvT b w.got), .t (.int .i64 w.next)]), (1002, .lst 8 (ds w.thief) 0)]
noncomputable def lWA : List (Nat × (List T → Ans)) := (62, c62) :: (60, c60) :: (24, c24) :: lE8
noncomputable def iWA : List (Nat × Pt) := iE8
noncomputable abbrev WA : Env := En tgl lWA iWA
theorem env_WA : EnvOk Try.prog WA := (env_fn (env_fn (env_fn env_E8 (fun _ _ => got24) (fun vs p d sz xs h _ => (nogl24 vs p d sz xs h).elim) pk24) (fun _ _ => got60) (fun vs p d sz xs h _ => (nogl60 vs p d sz xs h).elim) pk60) (fun _ _ => got62) (fun vs p d sz xs h _ => (nogl62 vs p d sz xs h).elim) pk62)
structure QOk (w : Wq) (a b : Bool) : Prop where
  m : (∀ n ∈ w.m, R64 n) ∧ Sz (us w.m)
  cap : I64 w.cap
  thief : w.thief.length = 3
  tcap : ∀ d ∈ w.thief, I64 d.cap ∧ I64 d.x
  ocap : I64 w.owner.cap ∧ I64 w.owner.x
  nx : I64 w.next
  pu : (a = true → w.pushed = []) ∧ (∀ n ∈ w.pushed, I64 n) ∧ w.pushed.length ≤ 1000
  go : (b = true → w.got = []) ∧ (∀ n ∈ w.got, I64 n) ∧ w.got.length ≤ 1000
theorem wi_I (n : Int) : I64 (wi n) := wrapi_I n
theorem dstep_x (m : List Int) {d : DM} (h : I64 d.x) : I64 (dstep m d).2.x := by
  let Q : List Int × DM → Prop := fun X => I64 X.2.x
  show Q (dstep m d)
  unfold dstep
  repeat' (refine ite_q (Q := Q) ?_ ?_)
  all_goals first
    | exact h
    | exact wi_I _
    | (show I64 0; unfold I64; omega)
    | (show I64 (if _ then _ else _ : DM).x
       split
       · exact h
       · show I64 0; unfold I64; omega)
theorem inl_steal {w : Wq} {a b : Bool} {k : Nat} (hk : k < 3) (hw : QOk w a b) {base : Nat} {R : V → Own → Prop}
    (hR : R (.t (.tup [])) (ownQ (stealQ w k) a (b && decide ((dstep w.m (dAt w.thief k)).2.out ≠ 1)))) : inl WA m61 base [.ptr 1001 0, .t (.int .i64 (k : Int))] (ownQ w a b) R := by
  obtain ⟨m, cap, owner, thief, pushed, got, next⟩ := w
  obtain ⟨⟨hm, hs⟩, hcap, h3, htc, hoc, hnx, hpu, hgo⟩ := hw
  simp only at hm hs hcap h3 htc hoc hnx hpu hgo
  have hq1 : (IsU (us m) ∧ Sz (us m)) ∧ I64 (dAt thief k).cap := ⟨⟨isU_us hm, hs⟩, (htc _ (by simp [dAt, show k < thief.length by omega])).1⟩
  have hkn : ((Nat.add 0 (k : Int).toNat : Nat) : Int) = (k : Int) := by simp
  have hkn2 : Nat.add 0 (k : Int).toNat = k := by simp
  obtain ⟨d, hd⟩ : ∃ d, d = dAt thief k := ⟨_, rfl⟩
  obtain ⟨r, hr⟩ : ∃ r, r = dstep m d := ⟨_, rfl⟩
  have hx64 : I64 r.2.x := by rw [hr, hd]; exact dstep_x m (htc _ (by simp [dAt, show k < thief.length by omega])).2
  have hqa : (IsI (is got) ∧ ((is got).length + (minI 1 1000).toNat) * 8 ≤ maxBytes) ∧ I64 r.2.x ∧ I64 1 := by
    have m1 : (minI 1 1000).toNat = 1 := by rw [minI_def]; rfl
    rw [m1, is_len]
    exact ⟨⟨isI_is hgo.2.1, by unfold maxBytes; have := hgo.2.2; omega⟩, hx64, by unfold I64; omega⟩
  have hqb : I64 r.2.x ∧ 0 ≤ (1 : Int) ∧ (1 : Int) ≤ 1000 := ⟨hx64, by omega, by omega⟩
  have hqa' : (IsI (is got) ∧ ((is got).length + (minI 1 1000).toNat) * 8 ≤ maxBytes) ∧ I64 (dstep m (dAt thief k)).2.x ∧ I64 1 := by rw [← hd, ← hr]; exact hqa
  have hqb' : I64 (dstep m (dAt thief k)).2.x ∧ 0 ≤ (1 : Int) ∧ (1 : Int) ≤ 1000 := by rw [← hd, ← hr]; exact hqb
  cases b with
  | true =>
    have hg0 : got = [] := hgo.1 rfl
    unfold inl ownQ
    conv => whnf
    repeat' (first
      | (refine brK_true rfl ?_; conv => whnf)
      | (refine brK_false rfl ?_; conv => whnf)
      | (refine brK_true (by assumption) ?_; conv => whnf)
      | (refine brK_false (by assumption) ?_; conv => whnf)
      | (refine brK_true ?_ ?_; (focus (simp only [List.length_nil, fx, natadd0, ds_len, List.length_set] <;> omega)); conv => whnf)
      | (refine brK_false ?_ ?_; (focus (simp only [List.length_nil, fx, natadd0, ds_len, List.length_set] <;> omega)); conv => whnf)
      | ((refine brK_of (fun h => ?_) (fun h => ?_)) <;> (have h2 := h; (try simp only [List.length_nil, fx, natadd0, ds_len, List.length_set] at h2); conv => whnf))
      | (refine reqK_of ?_ ?_; (focus (first | decide | omega | assumption | (simp only [List.length_nil, fx, natadd0, ds_len, List.length_set] <;> omega) | (simp [keyNew, sameKey, kEq] <;> omega))); conv => whnf)
      | (refine reqK_of ?_ ?_; rotate_left; (conv => whnf); rotate_left)
      | (refine nth_dset ?_ ?_ ?_; (focus (first | omega | (simp only [List.length_nil, fx, natadd0, ds_len, List.length_set] <;> omega))); (focus (first | omega | (simp only [List.length_nil, fx, natadd0, ds_len, List.length_set] <;> omega))); conv => whnf)
      | (refine nth_ds ?_ ?_ ?_; (focus (first | omega | (simp only [List.length_nil, fx, natadd0, ds_len, List.length_set] <;> omega))); (focus (first | omega | (simp only [List.length_nil, fx, natadd0, ds_len, List.length_set] <;> omega))); conv => whnf)
      | (refine nth_us ?_ ?_ ?_; (focus (first | omega | (simp only [List.length_nil, fx, natadd0, ds_len, List.length_set] <;> omega))); (focus (first | omega | (simp only [List.length_nil, fx, natadd0, ds_len, List.length_set] <;> omega))); conv => whnf)
      | (refine nth_is ?_ ?_ ?_; (focus (first | omega | (simp only [List.length_nil, fx, natadd0, ds_len, List.length_set] <;> omega))); (focus (first | omega | (simp only [List.length_nil, fx, natadd0, ds_len, List.length_set] <;> omega))); conv => whnf)
      | (refine nth_bs ?_ ?_ ?_; (focus (first | omega | (simp only [List.length_nil, fx, natadd0, ds_len, List.length_set] <;> omega))); (focus (first | omega | (simp only [List.length_nil, fx, natadd0, ds_len, List.length_set] <;> omega))); conv => whnf))
    all_goals try simp only [natadd0, ds_set, List.set_set, nums_us, hkn, hkn2, dm_eta, ds_len, Int.toNat_natCast] at *
    all_goals first
      | exact hqb'.1
      | exact hqb'
      | skip
    all_goals refine cast (congrArg (R _) ?_) hR
    all_goals simp only [ownQ, stealQ]
    all_goals simp_all [pvT, stD0, ds, DM.T]
    all_goals trace_state
  | false =>
    unfold inl ownQ
    conv => whnf
    repeat' (first
      | (refine brK_true rfl ?_; conv => whnf)
      | (refine brK_false rfl ?_; conv => whnf)
      | (refine brK_true (by assumption) ?_; conv => whnf)
      | (refine brK_false (by assumption) ?_; conv => whnf)
      | (refine brK_true ?_ ?_; (focus (simp only [List.length_nil, fx, natadd0, ds_len, List.length_set] <;> omega)); conv => whnf)
      | (refine brK_false ?_ ?_; (focus (simp only [List.length_nil, fx, natadd0, ds_len, List.length_set] <;> omega)); conv => whnf)
      | ((refine brK_of (fun h => ?_) (fun h => ?_)) <;> (have h2 := h; (try simp only [List.length_nil, fx, natadd0, ds_len, List.length_set] at h2); conv => whnf))
      | (refine reqK_of ?_ ?_; (focus (first | decide | omega | assumption | (simp only [List.length_nil, fx, natadd0, ds_len, List.length_set] <;> omega) | (simp [keyNew, sameKey, kEq] <;> omega))); conv => whnf)
      | (refine reqK_of ?_ ?_; rotate_left; (conv => whnf); rotate_left)
      | (refine nth_dset ?_ ?_ ?_; (focus (first | omega | (simp only [List.length_nil, fx, natadd0, ds_len, List.length_set] <;> omega))); (focus (first | omega | (simp only [List.length_nil, fx, natadd0, ds_len, List.length_set] <;> omega))); conv => whnf)
      | (refine nth_ds ?_ ?_ ?_; (focus (first | omega | (simp only [List.length_nil, fx, natadd0, ds_len, List.length_set] <;> omega))); (focus (first | omega | (simp only [List.length_nil, fx, natadd0, ds_len, List.length_set] <;> omega))); conv => whnf)
      | (refine nth_us ?_ ?_ ?_; (focus (first | omega | (simp only [List.length_nil, fx, natadd0, ds_len, List.length_set] <;> omega))); (focus (first | omega | (simp only [List.length_nil, fx, natadd0, ds_len, List.length_set] <;> omega))); conv => whnf)
      | (refine nth_is ?_ ?_ ?_; (focus (first | omega | (simp only [List.length_nil, fx, natadd0, ds_len, List.length_set] <;> omega))); (focus (first | omega | (simp only [List.length_nil, fx, natadd0, ds_len, List.length_set] <;> omega))); conv => whnf)
      | (refine nth_bs ?_ ?_ ?_; (focus (first | omega | (simp only [List.length_nil, fx, natadd0, ds_len, List.length_set] <;> omega))); (focus (first | omega | (simp only [List.length_nil, fx, natadd0, ds_len, List.length_set] <;> omega))); conv => whnf))
    all_goals try simp only [natadd0, ds_set, List.set_set, nums_us, hkn, hkn2, dm_eta, ds_len, Int.toNat_natCast] at *
    all_goals first
      | exact hqa'
      | skip
    all_goals refine cast (congrArg (R _) ?_) hR
    all_goals simp only [ownQ, stealQ]
    all_goals simp_all [pvT, stD0, ds, DM.T]
    all_goals trace_state
def ownA (w : Wq) (b : Int) : DM × Int :=
  if w.owner.out ≠ 0 then (if b / 5 % 2 = 1 then (⟨2, 0, 0, w.cap, 0, 0, 0, 0⟩, w.next) else (⟨1, 0, 0, w.cap, 0, 0, w.next, 0⟩, wi (w.next + 1))) else (w.owner, w.next)
def stepQ (w : Wq) (b : Int) : Wq :=
  if b % 5 < 3 then stealQ w (b % 5).toNat else
  let r := dstep w.m (ownA w b).1
  ⟨r.1, w.cap, r.2, w.thief, if r.2.out = 1 ∧ r.2.kind = 1 then addB w.pushed r.2.x 1 else w.pushed, if r.2.out = 1 ∧ r.2.kind = 2 then addB w.got r.2.x 1 else w.got, (ownA w b).2⟩
def ptSteal : Pt := fun _ args own R => ∃ (w : Wq) (a b : Bool) (k : Nat), args = [.ptr 1001 0, .t (.int .i64 (k : Int))] ∧ own = ownQ w a b ∧ k < 3 ∧ QOk w a b ∧ R (.t (.tup [])) (ownQ (stealQ w k) a (b && decide ((dstep w.m (dAt w.thief k)).2.out ≠ 1)))
theorem ptSteal_ok (base : Nat) (args : List V) (own : Own) (R : V → Own → Prop) (h : ptSteal base args own R) : FnV Try.prog tgl 61 args own R := by
  obtain ⟨w, a, b, k, rfl, rfl, hk, hw, hR⟩ := h
  exact inl_ok (base := base) env_WA Try.func61 low61 (inl_steal hk hw hR)
noncomputable def lWB : List (Nat × (List T → Ans)) := lWA
noncomputable def iWB : List (Nat × Pt) := (61, ptSteal) :: iWA
noncomputable abbrev WB : Env := En tgl lWB iWB
theorem env_WB : EnvOk Try.prog WB := env_ptB env_WA ptSteal_ok
/-- what was nil, is it still? -/
def nilA (w : Wq) (a : Bool) (b : Int) : Bool := if b % 5 < 3 then a else a && !(decide ((stepQ w b).owner.out = 1 ∧ (stepQ w b).owner.kind = 1))
def nilB (w : Wq) (a : Bool) (b : Int) : Bool := if b % 5 < 3 then a && decide ((dstep w.m (dAt w.thief (b % 5).toNat)).2.out ≠ 1) else a && !(decide ((stepQ w b).owner.out = 1 ∧ (stepQ w b).owner.kind = 2))
end Go.Nx
