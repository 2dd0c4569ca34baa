/-
  THE WORLD OF FIVE MACHINES: A STEP.
-/
import Derived.Test.YtommbfigioeghaaEl
set_option linter.unusedVariables false
set_option linter.unusedSimpArgs false
set_option maxRecDepth 20000
set_option maxHeartbeats 4000000
namespace Go.Nx
open Go.RowKit Go.Proofs

instance : Inhabited Mach := ⟨⟨0, 0, 0, 0, 0, 0, 0, 0⟩⟩
structure Wd where
  m : List Int
  who : List Mach
  has : List Int
  swap : Int
def mAt (l : List Mach) (i : Int) : Mach := l[i.toNat]?.getD default
def ms (l : List Mach) : List T := l.map Mach.T
@[simp] theorem ms_len (l : List Mach) : (ms l).length = l.length := by simp [ms]
theorem ms_set (l : List Mach) (i : Nat) (c : Mach) : (ms l).set i c.T = ms (l.set i c) := by simp [ms, List.map_set]
theorem nth_ms {l : List Mach} {i : Int} {K : T → Prop} (h0 : 0 ≤ i) (h1 : i < l.length) (h : K (mAt l i).T) : nthK (ms l) i K := by
  refine nthK_of (mAt l i).T h0 ?_ h
  have : i.toNat < l.length := by omega
  simp [ms, mAt, this]
theorem nth_mset {L : List T} {j : Nat} {c : T} {K : T → Prop} (h0 : (0 : Int) ≤ (j : Int)) (h1 : (j : Int) < L.length) (h : K c) : nthK (L.set j c) (j : Int) K := by
  refine nthK_of c h0 ?_ h
  have : j < L.length := by omega
  simp [this]
theorem mach_eta (c : Mach) : (⟨c.kind, c.pc, c.head, c.next, c.h, c.x, c.y, c.out⟩ : Mach) = c := rfl
def startM (b h : Int) : Mach := ⟨if ltI 0 h = true then 1 else 2, 0, b / 5 % 2, 1, 0, h, 0, 0⟩
def stepW (w : Wd) (b : Int) : Wd :=
  let k : Nat := (b % 5).toNat
  let c1 := if (mAt w.who k).out ≠ 0 then startM b (at0 w.has k) else mAt w.who k
  let c2 := stepC w.m c1
  if c2.out = 1 then ⟨stepL w.m c1, w.who.set k c2, w.has.set k (if c2.kind = 1 then 0 else c2.x), IntKind.i64.wrap (w.swap + 1)⟩
  else ⟨stepL w.m c1, w.who.set k c2, w.has, w.swap⟩
def ownW (w : Wd) : Own := [(1001, .cells [.t (.list 1 (us w.m)), .sl 1002 0 none, .sl 1003 0 none, .t (.int .i64 w.swap)]), (1003, .lst 1 (is w.has) 0), (1002, .lst 8 (ms w.who) 0)]
/-- what must be so for a step -/
structure WOk (w : Wd) : Prop where
  m : (∀ n ∈ w.m, R64 n) ∧ Sz (us w.m)
  who : w.who.length = 5
  has : w.has.length = 5
theorem pk0 : Nat.beq 1002 1001 = false := rfl
theorem inl15 {w : Wd} {b : Int} (hb : R8 b) (hw : WOk w) {base : Nat} {R : V → Own → Prop} (hR : R (.t (.tup [])) (ownW (stepW w b))) : inl EB m15 base [.ptr 1001 0, .t (.int .u8 b)] (ownW w) R := by
  obtain ⟨m, who, has, swap⟩ := w
  obtain ⟨⟨hm, hs⟩, h5, h5'⟩ := hw
  simp only at hm hs h5 h5'
  obtain ⟨hb0, hb1⟩ := hb
  have ek : IntKind.i64.wrap (b.tmod 5) = b % 5 := by
    rw [Int.tmod_eq_emod_of_nonneg hb0]; exact wrap_i64 ⟨by omega, by omega⟩
  have eh : IntKind.i64.wrap ((IntKind.u8.wrap (b.tdiv 5)).tmod 2) = b / 5 % 2 := by
    have e1 : b.tdiv 5 = b / 5 := Int.tdiv_eq_ediv_of_nonneg hb0
    have e2 : IntKind.u8.wrap (b / 5) = b / 5 := by
      have : IntKind.u8.wrap (b / 5) = (b / 5) % 256 := rfl
      omega
    rw [e1, e2, Int.tmod_eq_emod_of_nonneg (by omega)]; exact wrap_i64 ⟨by omega, by omega⟩
  unfold inl ownW
  conv => whnf
  repeat' (first
    | (refine brK_true (by assumption) ?_; conv => whnf)
    | (refine brK_false (by assumption) ?_; conv => whnf)
    | (refine brK_true ?_ ?_; (focus (simp only [List.length_nil, not_t, not_f, lt_t, lt_f, le_t, le_f, eq_t, eq_f, us_len, is_len, bs_len, lenL_00, ek, natadd0, ms_len, is_len, List.length_set] <;> omega)); conv => whnf)
    | (refine brK_false ?_ ?_; (focus (simp only [List.length_nil, not_t, not_f, lt_t, lt_f, le_t, le_f, eq_t, eq_f, us_len, is_len, bs_len, lenL_00, ek, natadd0, ms_len, is_len, List.length_set] <;> omega)); conv => whnf)
    | ((refine brK_of (fun h => ?_) (fun h => ?_)) <;> (have h2 := h; (try simp only [List.length_nil, not_t, not_f, lt_t, lt_f, le_t, le_f, eq_t, eq_f, us_len, is_len, bs_len, lenL_00, ek, natadd0, ms_len, is_len, List.length_set] at h2); conv => whnf))
    | (refine reqK_of ?_ ?_; (focus (first | decide | omega | assumption | (simp only [List.length_nil, not_t, not_f, lt_t, lt_f, le_t, le_f, eq_t, eq_f, us_len, is_len, bs_len, lenL_00, ek, natadd0, ms_len, is_len, List.length_set] <;> omega) | (simp [keyNew, sameKey, kEq] <;> omega))); conv => whnf)
    | (refine reqK_of ?_ ?_; rotate_left; (conv => whnf); rotate_left)
    | (refine nth_mset ?_ ?_ ?_; (focus (first | omega | (simp only [List.length_nil, not_t, not_f, lt_t, lt_f, le_t, le_f, eq_t, eq_f, us_len, is_len, bs_len, lenL_00, ek, natadd0, ms_len, is_len, List.length_set] <;> omega))); (focus (first | omega | (simp only [List.length_nil, not_t, not_f, lt_t, lt_f, le_t, le_f, eq_t, eq_f, us_len, is_len, bs_len, lenL_00, ek, natadd0, ms_len, is_len, List.length_set] <;> omega))); conv => whnf)
    | (refine nth_ms ?_ ?_ ?_; (focus (first | omega | (simp only [List.length_nil, not_t, not_f, lt_t, lt_f, le_t, le_f, eq_t, eq_f, us_len, is_len, bs_len, lenL_00, ek, natadd0, ms_len, is_len, List.length_set] <;> omega))); (focus (first | omega | (simp only [List.length_nil, not_t, not_f, lt_t, lt_f, le_t, le_f, eq_t, eq_f, us_len, is_len, bs_len, lenL_00, ek, natadd0, ms_len, is_len, List.length_set] <;> omega))); conv => whnf)
    | (refine nth_us ?_ ?_ ?_; (focus (first | omega | (simp only [List.length_nil, not_t, not_f, lt_t, lt_f, le_t, le_f, eq_t, eq_f, us_len, is_len, bs_len, lenL_00, ek, natadd0, ms_len, is_len, List.length_set] <;> omega))); (focus (first | omega | (simp only [List.length_nil, not_t, not_f, lt_t, lt_f, le_t, le_f, eq_t, eq_f, us_len, is_len, bs_len, lenL_00, ek, natadd0, ms_len, is_len, List.length_set] <;> omega))); conv => whnf)
    | (refine nth_is ?_ ?_ ?_; (focus (first | omega | (simp only [List.length_nil, not_t, not_f, lt_t, lt_f, le_t, le_f, eq_t, eq_f, us_len, is_len, bs_len, lenL_00, ek, natadd0, ms_len, is_len, List.length_set] <;> omega))); (focus (first | omega | (simp only [List.length_nil, not_t, not_f, lt_t, lt_f, le_t, le_f, eq_t, eq_f, us_len, is_len, bs_len, lenL_00, ek, natadd0, ms_len, is_len, List.length_set] <;> omega))); conv => whnf)
    | (refine nth_bs ?_ ?_ ?_; (focus (first | omega | (simp only [List.length_nil, not_t, not_f, lt_t, lt_f, le_t, le_f, eq_t, eq_f, us_len, is_len, bs_len, lenL_00, ek, natadd0, ms_len, is_len, List.length_set] <;> omega))); (focus (first | omega | (simp only [List.length_nil, not_t, not_f, lt_t, lt_f, le_t, le_f, eq_t, eq_f, us_len, is_len, bs_len, lenL_00, ek, natadd0, ms_len, is_len, List.length_set] <;> omega))); conv => whnf))
  all_goals first
    | exact ⟨isU_us hm, hs⟩
    | skip
  all_goals refine cast (congrArg (R _) ?_) hR
  all_goals simp only [natadd0, ms_set, List.set_set, nums_us, ek, eh]
  all_goals simp only [ownW, stepW]
  all_goals simp only [eh, nums_us, mach_eta] at *
  all_goals simp_all [startM, is_set]
end Go.Nx
