/-
  THE CHAPTER's EXAMPLES.
-/
import Derived.Test.YtbcldnaoecnffaaDoorNg
set_option linter.unusedVariables false
set_option maxRecDepth 20000
namespace Go.Mx
open Go.RowKit Go.Proofs

theorem FnOk.eq {P : Program} {gl : Nat → Option (List T)} {f : FuncId} {vs : List T} {x y : T} (h : FnOk P gl f vs x) (e : x = y) : FnOk P gl f vs y := e ▸ h
theorem r3 : R64 3 := ⟨by decide, by decide⟩
theorem r2 : R64 2 := ⟨by decide, by decide⟩
theorem r7 : R64 7 := ⟨by decide, by decide⟩
theorem r11 : R64 11 := ⟨by decide, by decide⟩
theorem r10 : R64 10 := ⟨by decide, by decide⟩
theorem r1 : R64 1 := ⟨by decide, by decide⟩
theorem r0 : R64 0 := ⟨by decide, by decide⟩
def c11X : List T → Ans
  | [.agg [.int .u64 3, .int .u64 2], .int .i64 3] => .yes (.tup [.agg [.int .u64 7, .int .u64 2], .bool true])
  | [.agg [.int .u64 3, .int .u64 2], .int .i64 1] => .yes (.tup [.agg [.int .u64 3, .int .u64 2], .bool false])
  | _ => .no
theorem got11X {vs : List T} {x : T} (h : Got (c11X vs) x) : FnOk Tryd.prog tgl 11 vs x := by
  unfold c11X at h
  split at h
  · rw [got_yes h]; exact (ok11 3 2 3 ⟨r3, r2⟩).eq (by kernel_rfl)
  · rw [got_yes h]; exact (ok11 3 2 1 ⟨r3, r2⟩).eq (by kernel_rfl)
  · exact (got_no h).elim
def c13X : List T → Ans
  | [.agg [.int .u64 3, .int .u64 2], .int .i64 1] => .yes (.tup [.agg [.int .u64 3, .int .u64 3], .bool true])
  | [.agg [.int .u64 3, .int .u64 2], .int .i64 2] => .yes (.tup [.agg [.int .u64 3, .int .u64 2], .bool false])
  | _ => .no
theorem got13X {vs : List T} {x : T} (h : Got (c13X vs) x) : FnOk Tryd.prog tgl 13 vs x := by
  unfold c13X at h
  split at h
  · rw [got_yes h]; exact (ok13 3 2 1 ⟨r3, r2⟩).eq (by kernel_rfl)
  · rw [got_yes h]; exact (ok13 3 2 2 ⟨r3, r2⟩).eq (by kernel_rfl)
  · exact (got_no h).elim
def c15X : List T → Ans
  | [.agg [.int .u64 3, .int .u64 2], .int .i64 4] => .yes (.tup [.agg [.int .u64 11, .int .u64 10], .bool true])
  | _ => .no
theorem got15X {vs : List T} {x : T} (h : Got (c15X vs) x) : FnOk Tryd.prog tgl 15 vs x := by
  unfold c15X at h
  split at h
  · rw [got_yes h]; exact (ok15 3 2 4 ⟨r3, r2⟩).eq (by kernel_rfl)
  · exact (got_no h).elim
def c17X : List T → Ans
  | [.agg [.int .u64 3, .int .u64 2], .agg [.int .u64 7, .int .u64 2]] => .yes (.tup [.int .i64 1, .int .i64 3])
  | [.agg [.int .u64 3, .int .u64 2], .agg [.int .u64 11, .int .u64 10]] => .yes (.tup [.int .i64 3, .int .i64 4])
  | [.agg [.int .u64 7, .int .u64 2], .agg [.int .u64 3, .int .u64 2]] => .yes (.tup [.int .i64 (-1), .int .i64 0])
  | _ => .no
theorem got17X {vs : List T} {x : T} (h : Got (c17X vs) x) : FnOk Tryd.prog tgl 17 vs x := by
  unfold c17X at h
  split at h
  · rw [got_yes h]; exact (ok17 3 2 7 2 ⟨⟨r3, r2⟩, r7, r2⟩).eq (by kernel_rfl)
  · rw [got_yes h]; exact (ok17 3 2 11 10 ⟨⟨r3, r2⟩, r11, r10⟩).eq (by kernel_rfl)
  · rw [got_yes h]; exact (ok17 7 2 3 2 ⟨⟨r7, r2⟩, r3, r2⟩).eq (by kernel_rfl)
  · exact (got_no h).elim
def c25X : List T → Ans
  | [.agg [.int .u64 3, .int .u64 2], .int .i64 3] => .yes (.str ⟨#[103, 98, 119]⟩)
  | _ => .no
theorem got25X {vs : List T} {x : T} (h : Got (c25X vs) x) : FnOk Tryd.prog tgl 25 vs x := by
  unfold c25X at h
  split at h
  · rw [got_yes h]; exact (ok25 3 2 3).eq (by kernel_rfl)
  · exact (got_no h).elim
def c21X : List T → Ans
  | [.agg [.int .u64 3, .int .u64 2], .int .i64 1] => .yes (.int .i64 1)
  | [.agg [.int .u64 3, .int .u64 2], .int .i64 0] => .yes (.int .i64 0)
  | _ => .no
theorem got21X {vs : List T} {x : T} (h : Got (c21X vs) x) : FnOk Tryd.prog tgl 21 vs x := by
  unfold c21X at h
  split at h
  · rw [got_yes h]; exact (ok21 3 2 1).eq (by kernel_rfl)
  · rw [got_yes h]; exact (ok21 3 2 0).eq (by kernel_rfl)
  · exact (got_no h).elim
def c23X : List T → Ans
  | [.agg [.int .u64 3, .int .u64 2]] => .yes (.int .u64 1)
  | _ => .no
theorem got23X {vs : List T} {x : T} (h : Got (c23X vs) x) : FnOk Tryd.prog tgl 23 vs x := by
  unfold c23X at h
  split at h
  · rw [got_yes h]; exact (ok23 3 2).eq (by kernel_rfl)
  · exact (got_no h).elim
def c19X : List T → Ans
  | [.agg [.int .u64 3, .int .u64 2], .int .i64 2] => .yes (.bool true)
  | [.agg [.int .u64 3, .int .u64 2], .int .i64 1] => .yes (.bool false)
  | [.agg [.int .u64 0, .int .u64 1], .int .i64 4] => .yes (.bool false)
  | _ => .no
theorem got19X {vs : List T} {x : T} (h : Got (c19X vs) x) : FnOk Tryd.prog tgl 19 vs x := by
  unfold c19X at h
  split at h
  · rw [got_yes h]; exact (ok19 3 2 2 ⟨r3, r2⟩).eq (by kernel_rfl)
  · rw [got_yes h]; exact (ok19 3 2 1 ⟨r3, r2⟩).eq (by kernel_rfl)
  · rw [got_yes h]; exact (ok19 0 1 4 ⟨r0, r1⟩).eq (by kernel_rfl)
  · exact (got_no h).elim
def lX : List (Nat × (List T → Ans)) := [(11, c11X), (13, c13X), (15, c15X), (17, c17X), (25, c25X), (21, c21X), (23, c23X), (19, c19X)]
def eX : Env := ⟨ansL lX, tgl⟩
theorem envX : EnvOk Tryd.prog eX := (env_cons (env_cons (env_cons (env_cons (env_cons (env_cons (env_cons (env_cons env_nil fun _ _ => got19X) fun _ _ => got23X) fun _ _ => got21X) fun _ _ => got25X) fun _ _ => got17X) fun _ _ => got15X) fun _ _ => got13X) fun _ _ => got11X)
def c9 : List T → Ans
  | [] => .yes (.bool true)
  | _ => .no
theorem ok9  : FnOk Tryd.prog tgl 9 [] (.bool true) := by
  refine fn_ok (Γ := eX) envX Tryd.func9 low9 ?_
  have e : fnK eX m9 [] (· = T.bool true) = (T.bool true = T.bool true) := by kernel_rfl
  rw [e]
theorem got9 {vs : List T} {x : T} (h : Got (c9 vs) x) : FnOk Tryd.prog tgl 9 vs x := by
  unfold c9 at h
  split at h
  · rw [got_yes h]; exact ok9
  · exact (got_no h).elim
def lA : List (Nat × (List T → Ans)) := (9, c9) :: l9
def eA : Env := ⟨ansL lA, tgl⟩
theorem envA : EnvOk Tryd.prog eA := (env_cons env9 fun _ _ => got9)
end Go.Mx
