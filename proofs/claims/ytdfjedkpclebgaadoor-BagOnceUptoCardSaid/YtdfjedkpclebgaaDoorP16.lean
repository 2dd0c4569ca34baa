/-
  A part of the machine, and of what is walked.
-/
import Derived.Test.YtdfjedkpclebgaaDoorP15
import Derived.Shelf.SlGeneric
import Derived.Shelf.SortM.Plain
import Derived.Shelf.SortM.SortNone
import Derived.Ground.SlgmProg
import Derived.Test.YtdfjedkpclebgaaDoorRows
section
namespace Go.Proofs
open Go.Shelf
def Tryd.laysSort_ren : Go.Shelf.Ren := ⟨fun | 5 => 82 | 8 => 93 | 7 => 92 | 19 => 113 | 20 => 114 | 10 => 104 | 11 => 105 | 12 => 106 | 13 => 107 | 14 => 108 | 15 => 109 | 16 => 110 | 17 => 111 | 18 => 112 | 30 => 130 | 31 => 131 | 32 => 132 | 33 => 133 | 34 => 134 | 35 => 135 | 40 => 148 | n => n, fun | 23 => 40 | 25 => 3 | 3 => 3 | 32 => 125 | 22 => 39 | 0 => 0 | 44 => 136 | 46 => 25 | 4 => 4 | 36 => 143 | 35 => 142 | 41 => 30 | 5 => 5 | 9 => 9 | 53 => 165 | 57 => 169 | 63 => 181 | 64 => 182 | n => n, fun | n => n⟩
theorem Tryd.laysSort : Go.Proofs.SlLaysM.n5 Tryd.prog Tryd.laysSort_ren := {
  mixed := by kernel_rfl
  f5 := ⟨Tryd.f82.name, by decide, Tryd.func82.trans (congrArg some (by kernel_rfl))⟩
  f7 := ⟨Tryd.f92.name, by decide, Tryd.func92.trans (congrArg some (by kernel_rfl))⟩
  f8 := Tryd.func93.trans (congrArg some (by kernel_rfl))
  f10 := ⟨Tryd.f104.name, by decide, Tryd.func104.trans (congrArg some (by kernel_rfl))⟩
  f11 := ⟨Tryd.f105.name, by decide, Tryd.func105.trans (congrArg some (by kernel_rfl))⟩
  f12 := ⟨Tryd.f106.name, by decide, Tryd.func106.trans (congrArg some (by kernel_rfl))⟩
  f13 := ⟨Tryd.f107.name, by decide, Tryd.func107.trans (congrArg some (by kernel_rfl))⟩
  f14 := ⟨Tryd.f108.name, by decide, Tryd.func108.trans (congrArg some (by kernel_rfl))⟩
  f15 := ⟨Tryd.f109.name, by decide, Tryd.func109.trans (congrArg some (by kernel_rfl))⟩
  f16 := ⟨Tryd.f110.name, by decide, Tryd.func110.trans (congrArg some (by kernel_rfl))⟩
  f17 := ⟨Tryd.f111.name, by decide, Tryd.func111.trans (congrArg some (by kernel_rfl))⟩
  f18 := ⟨Tryd.f112.name, by decide, Tryd.func112.trans (congrArg some (by kernel_rfl))⟩
  f19 := Tryd.func113.trans (congrArg some (by kernel_rfl))
  f20 := Tryd.func114.trans (congrArg some (by kernel_rfl))
  f30 := ⟨Tryd.f130.name, by decide, Tryd.func130.trans (congrArg some (by kernel_rfl))⟩
  f31 := Tryd.func131.trans (congrArg some (by kernel_rfl))
  f32 := Tryd.func132.trans (congrArg some (by kernel_rfl))
  f33 := ⟨Tryd.f133.name, by decide, Tryd.func133.trans (congrArg some (by kernel_rfl))⟩
  f34 := ⟨Tryd.f134.name, by decide, Tryd.func134.trans (congrArg some (by kernel_rfl))⟩
  f35 := ⟨Tryd.f135.name, by decide, Tryd.func135.trans (congrArg some (by kernel_rfl))⟩
  f40 := ⟨Tryd.f148.name, by decide, Tryd.func148.trans (congrArg some (by kernel_rfl))⟩
  t0 := Tryd.underlying0
  a0 := Tryd.isAgg0
  z0 := Tryd.sizeOf0
  v0 := Tryd.zeroValue0
  t3 := Tryd.underlying3
  a3 := Tryd.isAgg3
  z3 := Tryd.sizeOf3
  v3 := Tryd.zeroValue3
  t4 := Tryd.underlying4
  a4 := Tryd.isAgg4
  z4 := Tryd.sizeOf4
  v4 := Tryd.zeroValue4
  t5 := Tryd.underlying5
  a5 := Tryd.isAgg5
  z5 := Tryd.sizeOf5
  v5 := Tryd.zeroValue5
  t9 := Tryd.underlying9
  a9 := Tryd.isAgg9
  z9 := Tryd.sizeOf9
  v9 := Tryd.zeroValue9
  t22 := Tryd.underlying39
  a22 := Tryd.isAgg39
  z22 := Tryd.sizeOf39
  v22 := Tryd.zeroValue39
  t23 := Tryd.underlying40
  a23 := Tryd.isAgg40
  z23 := Tryd.sizeOf40
  v23 := Tryd.zeroValue40
  t25 := Tryd.underlying3
  a25 := Tryd.isAgg3
  z25 := Tryd.sizeOf3
  v25 := Tryd.zeroValue3
  t32 := Tryd.underlying125
  a32 := Tryd.isAgg125
  z32 := Tryd.sizeOf125
  v32 := Tryd.zeroValue125
  t35 := Tryd.underlying142
  a35 := Tryd.isAgg142
  z35 := Tryd.sizeOf142
  v35 := Tryd.zeroValue142
  t36 := Tryd.underlying143
  a36 := Tryd.isAgg143
  z36 := Tryd.sizeOf143
  v36 := Tryd.zeroValue143
  t41 := Tryd.underlying30
  a41 := Tryd.isAgg30
  z41 := Tryd.sizeOf30
  v41 := Tryd.zeroValue30
  t44 := Tryd.underlying136
  a44 := Tryd.isAgg136
  z44 := Tryd.sizeOf136
  v44 := Tryd.zeroValue136
  t46 := Tryd.underlying25
  a46 := Tryd.isAgg25
  z46 := Tryd.sizeOf25
  v46 := Tryd.zeroValue25
  t53 := Tryd.underlying165
  a53 := Tryd.isAgg165
  z53 := Tryd.sizeOf165
  v53 := Tryd.zeroValue165
  t57 := Tryd.underlying169
  a57 := Tryd.isAgg169
  z57 := Tryd.sizeOf169
  v57 := Tryd.zeroValue169
  t63 := Tryd.underlying181
  a63 := Tryd.isAgg181
  z63 := Tryd.sizeOf181
  v63 := Tryd.zeroValue181
  t64 := Tryd.underlying182
  a64 := Tryd.isAgg182
  z64 := Tryd.sizeOf182
  v64 := Tryd.zeroValue182 }
open Go.RowKit Go.Lib Go.Sort in
theorem Tryd.slices_Sort (blk off cap : Nat) (zs : List Int) (w : World) (hH : Holds (Value.int .i64) w blk off zs.toArray) (hblk : blk < w.heap.size) (hsz : zs.length < 4611686018427387904) :
    Calls Tryd.prog 82 #[.slice (some ⟨blk, off, none⟩) zs.length cap] w fun e w' =>
      e = .returned (.tuple #[]) ∧ ∃ n os, w' = grow (putRow (Value.int .i64) (Sort.ahead w n) blk off (zs.mergeSort fun x y => decide (x ≤ y)).toArray) os := AnyM.slices_Sort_int Tryd.laysSort blk off cap zs w hH hblk hsz
theorem Tryd.slices_Sort_none (p : Option Addr) (cap : Nat) (w : World) :
    Calls Tryd.prog 82 #[.slice p 0 cap] w fun e w' => e = .returned (.tuple #[]) ∧ w' = w := AnyM.slices_Sort_int_none Tryd.laysSort p cap w
end Go.Proofs
end
section
set_option linter.unusedVariables false
set_option linter.unusedSimpArgs false
set_option maxRecDepth 20000
set_option maxHeartbeats 4000000
namespace Go.Nx
open Go.RowKit Go.Proofs

noncomputable def lB0 : List (Nat × (List T → Ans)) := []
noncomputable def iB0 : List (Nat × Pt) := []
noncomputable abbrev B0 : Env := En tgl lB0 iB0
theorem env_B0 : EnvOk Tryd.prog B0 := env_nil
def ptSort : Pt := fun _ args own R =>
  (∃ k l, args = [.sl k 0 none] ∧ look k own = some (.lst 1 (is l) 0) ∧ l.length ≤ 140737488355328 ∧ R (.t (.tup [])) (upd k (.lst 1 (is (srt l)) 0) own)) ∨ args = [.t .nils] ∧ R (.t (.tup [])) own
theorem enter_sort : Enter Tryd.prog 82 := by
  exact enter_low Tryd.func82 low82
theorem ptSort_ok (base : Nat) (args : List V) (own : Own) (R : V → Own → Prop) (h : ptSort base args own R) : FnV Tryd.prog tgl 82 args own R := by
  rcases h with ⟨k, l, rfl, hl, hn, hR⟩ | ⟨rfl, hR⟩
  · exact sort_fnv enter_sort (fun blk off cap zs w h1 h2 h3 => Tryd.slices_Sort blk off cap zs w h1 h2 h3) (fun p cap w => (Tryd.slices_Sort_none p cap w).mono fun e w' ⟨h1, h2⟩ => ⟨h1, 0, #[], by rw [h2]; rfl⟩) hl hn hR
  · exact sort_fnv_nil enter_sort (fun p cap w => (Tryd.slices_Sort_none p cap w).mono fun e w' ⟨h1, h2⟩ => ⟨h1, 0, #[], by rw [h2]; rfl⟩) hR
noncomputable def lS0 : List (Nat × (List T → Ans)) := lB0
noncomputable def iS0 : List (Nat × Pt) := (82, ptSort) :: iB0
noncomputable abbrev S0 : Env := En tgl lS0 iS0
theorem env_S0 : EnvOk Tryd.prog S0 := env_ptB env_B0 ptSort_ok
noncomputable def lS1 : List (Nat × (List T → Ans)) := lS0
noncomputable def iS1 : List (Nat × Pt) := (76, inl B0 m76) :: iS0
noncomputable abbrev S1 : Env := En tgl lS1 iS1
theorem env_S1 : EnvOk Tryd.prog S1 := (env_in env_S0 env_B0 Tryd.func76 low76)
theorem ok52 (xs : List T) (hq : IsI xs ∧ SzB xs) : FnOk Tryd.prog tgl 52 [.list 1 xs] (.list 1 (is (srt (nums xs)))) := by
  obtain ⟨⟨l, rfl, hl⟩, hs⟩ := hq
  have hlen := sz_lenB hs
  rw [nums_is]
  refine fn_okN (Γ := S1) env_S1 Tryd.func52 low52 ?_
  conv => whnf
  repeat' (first
    | (refine brK_true rfl ?_; conv => whnf)
    | (refine brK_false rfl ?_; conv => whnf)
    | (refine brK_true (by assumption) ?_; conv => whnf)
    | (refine brK_false (by assumption) ?_; conv => whnf)
    | (refine brK_true ?_ ?_; (focus (simp only [List.length_nil, fx] <;> omega)); conv => whnf)
    | (refine brK_false ?_ ?_; (focus (simp only [List.length_nil, fx] <;> omega)); conv => whnf)
    | ((refine brK_of (fun h => ?_) (fun h => ?_)) <;> (have h2 := h; (try simp only [List.length_nil, fx] at h2); conv => whnf))
    | (refine reqK_of ?_ ?_; (focus (first | decide | omega | assumption | (simp only [List.length_nil, fx] <;> omega) | (simp [keyNew, sameKey, kEq] <;> omega))); conv => whnf)
    | (refine reqK_of ?_ ?_; rotate_left; (conv => whnf); rotate_left)
    | (refine nth_us ?_ ?_ ?_; (focus (first | omega | (simp only [List.length_nil, fx] <;> omega))); (focus (first | omega | (simp only [List.length_nil, fx] <;> omega))); conv => whnf)
    | (refine nth_is ?_ ?_ ?_; (focus (first | omega | (simp only [List.length_nil, fx] <;> omega))); (focus (first | omega | (simp only [List.length_nil, fx] <;> omega))); conv => whnf)
    | (refine nth_bs ?_ ?_ ?_; (focus (first | omega | (simp only [List.length_nil, fx] <;> omega))); (focus (first | omega | (simp only [List.length_nil, fx] <;> omega))); conv => whnf))
  refine altK_of ?_ (fun hnil => ?_)
  · conv => whnf
    repeat' (first
      | (refine brK_true rfl ?_; conv => whnf)
      | (refine brK_false rfl ?_; conv => whnf)
      | (refine brK_true (by assumption) ?_; conv => whnf)
      | (refine brK_false (by assumption) ?_; conv => whnf)
      | (refine brK_true ?_ ?_; (focus (simp only [List.length_nil, fx] <;> omega)); conv => whnf)
      | (refine brK_false ?_ ?_; (focus (simp only [List.length_nil, fx] <;> omega)); conv => whnf)
      | ((refine brK_of (fun h => ?_) (fun h => ?_)) <;> (have h2 := h; (try simp only [List.length_nil, fx] at h2); conv => whnf))
      | (refine reqK_of ?_ ?_; (focus (first | decide | omega | assumption | (simp only [List.length_nil, fx] <;> omega) | (simp [keyNew, sameKey, kEq] <;> omega))); conv => whnf)
      | (refine reqK_of ?_ ?_; rotate_left; (conv => whnf); rotate_left)
      | (refine nth_us ?_ ?_ ?_; (focus (first | omega | (simp only [List.length_nil, fx] <;> omega))); (focus (first | omega | (simp only [List.length_nil, fx] <;> omega))); conv => whnf)
      | (refine nth_is ?_ ?_ ?_; (focus (first | omega | (simp only [List.length_nil, fx] <;> omega))); (focus (first | omega | (simp only [List.length_nil, fx] <;> omega))); conv => whnf)
      | (refine nth_bs ?_ ?_ ?_; (focus (first | omega | (simp only [List.length_nil, fx] <;> omega))); (focus (first | omega | (simp only [List.length_nil, fx] <;> omega))); conv => whnf))
    all_goals first
      | (refine .inl ⟨_, l, rfl, rfl, by omega, ?_⟩
         conv => whnf
         repeat' (first
           | (refine brK_true rfl ?_; conv => whnf)
           | (refine brK_false rfl ?_; conv => whnf)
           | (refine brK_true (by assumption) ?_; conv => whnf)
           | (refine brK_false (by assumption) ?_; conv => whnf)
           | (refine brK_true ?_ ?_; (focus (simp only [List.length_nil, fx, subL_00] <;> omega)); conv => whnf)
           | (refine brK_false ?_ ?_; (focus (simp only [List.length_nil, fx, subL_00] <;> omega)); conv => whnf)
           | ((refine brK_of (fun h => ?_) (fun h => ?_)) <;> (have h2 := h; (try simp only [List.length_nil, fx, subL_00] at h2); conv => whnf))
           | (refine reqK_of ?_ ?_; (focus (first | decide | omega | assumption | (simp only [List.length_nil, fx, subL_00] <;> omega) | (simp [keyNew, sameKey, kEq] <;> omega))); conv => whnf)
           | (refine reqK_of ?_ ?_; rotate_left; (conv => whnf); rotate_left)
           | (refine nth_us ?_ ?_ ?_; (focus (first | omega | (simp only [List.length_nil, fx, subL_00] <;> omega))); (focus (first | omega | (simp only [List.length_nil, fx, subL_00] <;> omega))); conv => whnf)
           | (refine nth_is ?_ ?_ ?_; (focus (first | omega | (simp only [List.length_nil, fx, subL_00] <;> omega))); (focus (first | omega | (simp only [List.length_nil, fx, subL_00] <;> omega))); conv => whnf)
           | (refine nth_bs ?_ ?_ ?_; (focus (first | omega | (simp only [List.length_nil, fx, subL_00] <;> omega))); (focus (first | omega | (simp only [List.length_nil, fx, subL_00] <;> omega))); conv => whnf))
         exact .inl (by rw [subL_00]))
      | skip
  · have hnil := is_nil_iff.1 hnil
    subst hnil
    conv => whnf
    repeat' (first
      | (refine brK_true rfl ?_; conv => whnf)
      | (refine brK_false rfl ?_; conv => whnf)
      | (refine brK_true (by assumption) ?_; conv => whnf)
      | (refine brK_false (by assumption) ?_; conv => whnf)
      | (refine brK_true ?_ ?_; (focus (simp only [List.length_nil, fx] <;> omega)); conv => whnf)
      | (refine brK_false ?_ ?_; (focus (simp only [List.length_nil, fx] <;> omega)); conv => whnf)
      | ((refine brK_of (fun h => ?_) (fun h => ?_)) <;> (have h2 := h; (try simp only [List.length_nil, fx] at h2); conv => whnf))
      | (refine reqK_of ?_ ?_; (focus (first | decide | omega | assumption | (simp only [List.length_nil, fx] <;> omega) | (simp [keyNew, sameKey, kEq] <;> omega))); conv => whnf)
      | (refine reqK_of ?_ ?_; rotate_left; (conv => whnf); rotate_left)
      | (refine nth_us ?_ ?_ ?_; (focus (first | omega | (simp only [List.length_nil, fx] <;> omega))); (focus (first | omega | (simp only [List.length_nil, fx] <;> omega))); conv => whnf)
      | (refine nth_is ?_ ?_ ?_; (focus (first | omega | (simp only [List.length_nil, fx] <;> omega))); (focus (first | omega | (simp only [List.length_nil, fx] <;> omega))); conv => whnf)
      | (refine nth_bs ?_ ?_ ?_; (focus (first | omega | (simp only [List.length_nil, fx] <;> omega))); (focus (first | omega | (simp only [List.length_nil, fx] <;> omega))); conv => whnf))
    refine .inr ⟨rfl, ?_⟩
    conv => whnf
    repeat' (first
      | (refine brK_true rfl ?_; conv => whnf)
      | (refine brK_false rfl ?_; conv => whnf)
      | (refine brK_true (by assumption) ?_; conv => whnf)
      | (refine brK_false (by assumption) ?_; conv => whnf)
      | (refine brK_true ?_ ?_; (focus (simp only [List.length_nil, fx] <;> omega)); conv => whnf)
      | (refine brK_false ?_ ?_; (focus (simp only [List.length_nil, fx] <;> omega)); conv => whnf)
      | ((refine brK_of (fun h => ?_) (fun h => ?_)) <;> (have h2 := h; (try simp only [List.length_nil, fx] at h2); conv => whnf))
      | (refine reqK_of ?_ ?_; (focus (first | decide | omega | assumption | (simp only [List.length_nil, fx] <;> omega) | (simp [keyNew, sameKey, kEq] <;> omega))); conv => whnf)
      | (refine reqK_of ?_ ?_; rotate_left; (conv => whnf); rotate_left)
      | (refine nth_us ?_ ?_ ?_; (focus (first | omega | (simp only [List.length_nil, fx] <;> omega))); (focus (first | omega | (simp only [List.length_nil, fx] <;> omega))); conv => whnf)
      | (refine nth_is ?_ ?_ ?_; (focus (first | omega | (simp only [List.length_nil, fx] <;> omega))); (focus (first | omega | (simp only [List.length_nil, fx] <;> omega))); conv => whnf)
      | (refine nth_bs ?_ ?_ ?_; (focus (first | omega | (simp only [List.length_nil, fx] <;> omega))); (focus (first | omega | (simp only [List.length_nil, fx] <;> omega))); conv => whnf))
    exact .inr ⟨rfl, 1, by unfold srt; rw [List.mergeSort_nil]; rfl⟩
theorem ok52_2  : FnOk Tryd.prog tgl 52 [.nils] (.list 1 []) := by
  refine fn_okN (Γ := S1) env_S1 Tryd.func52 low52 ?_
  conv => whnf
  repeat' (first
    | (refine brK_true rfl ?_; conv => whnf)
    | (refine brK_false rfl ?_; conv => whnf)
    | (refine brK_true (by assumption) ?_; conv => whnf)
    | (refine brK_false (by assumption) ?_; conv => whnf)
    | (refine brK_true ?_ ?_; (focus (simp only [List.length_nil, fx] <;> omega)); conv => whnf)
    | (refine brK_false ?_ ?_; (focus (simp only [List.length_nil, fx] <;> omega)); conv => whnf)
    | ((refine brK_of (fun h => ?_) (fun h => ?_)) <;> (have h2 := h; (try simp only [List.length_nil, fx] at h2); conv => whnf))
    | (refine reqK_of ?_ ?_; (focus (first | decide | omega | assumption | (simp only [List.length_nil, fx] <;> omega) | (simp [keyNew, sameKey, kEq] <;> omega))); conv => whnf)
    | (refine reqK_of ?_ ?_; rotate_left; (conv => whnf); rotate_left)
    | (refine nth_us ?_ ?_ ?_; (focus (first | omega | (simp only [List.length_nil, fx] <;> omega))); (focus (first | omega | (simp only [List.length_nil, fx] <;> omega))); conv => whnf)
    | (refine nth_is ?_ ?_ ?_; (focus (first | omega | (simp only [List.length_nil, fx] <;> omega))); (focus (first | omega | (simp only [List.length_nil, fx] <;> omega))); conv => whnf)
    | (refine nth_bs ?_ ?_ ?_; (focus (first | omega | (simp only [List.length_nil, fx] <;> omega))); (focus (first | omega | (simp only [List.length_nil, fx] <;> omega))); conv => whnf))
  refine .inr ⟨rfl, ?_⟩
  conv => whnf
  repeat' (first
    | (refine brK_true rfl ?_; conv => whnf)
    | (refine brK_false rfl ?_; conv => whnf)
    | (refine brK_true (by assumption) ?_; conv => whnf)
    | (refine brK_false (by assumption) ?_; conv => whnf)
    | (refine brK_true ?_ ?_; (focus (simp only [List.length_nil, fx] <;> omega)); conv => whnf)
    | (refine brK_false ?_ ?_; (focus (simp only [List.length_nil, fx] <;> omega)); conv => whnf)
    | ((refine brK_of (fun h => ?_) (fun h => ?_)) <;> (have h2 := h; (try simp only [List.length_nil, fx] at h2); conv => whnf))
    | (refine reqK_of ?_ ?_; (focus (first | decide | omega | assumption | (simp only [List.length_nil, fx] <;> omega) | (simp [keyNew, sameKey, kEq] <;> omega))); conv => whnf)
    | (refine reqK_of ?_ ?_; rotate_left; (conv => whnf); rotate_left)
    | (refine nth_us ?_ ?_ ?_; (focus (first | omega | (simp only [List.length_nil, fx] <;> omega))); (focus (first | omega | (simp only [List.length_nil, fx] <;> omega))); conv => whnf)
    | (refine nth_is ?_ ?_ ?_; (focus (first | omega | (simp only [List.length_nil, fx] <;> omega))); (focus (first | omega | (simp only [List.length_nil, fx] <;> omega))); conv => whnf)
    | (refine nth_bs ?_ ?_ ?_; (focus (first | omega | (simp only [List.length_nil, fx] <;> omega))); (focus (first | omega | (simp only [List.length_nil, fx] <;> omega))); conv => whnf))
  exact .inr ⟨rfl, 1, rfl⟩
open Classical in
noncomputable def c52 : List T → Ans
  | [.list 1 xs] => .req (IsI xs ∧ SzB xs) (.list 1 (is (srt (nums xs))))
  | [.nils] => .yes (.list 1 [])
  | _ => .no
theorem got52 {vs : List T} {x : T} (h : Got (c52 vs) x) : FnOk Tryd.prog tgl 52 vs x := by
  unfold c52 at h
  split at h
  · obtain ⟨hq, e⟩ := got_req h; rw [e]; exact ok52 _ hq
  · rw [got_yes h]; exact ok52_2
  · exact (got_no h).elim
theorem nogl52 (vs : List T) (p : Prop) (d : Decidable p) (sz : Nat) (xs : List T) (h : c52 vs = @Ans.gl p d sz xs) : False := by
  unfold c52 at h
  split at h <;> cases h
theorem pk52 (vs : List T) (p : Prop) (d : Decidable p) (x : T) (h : c52 vs = @Ans.pk p d x) (hp : p) : FnOk Tryd.prog tgl 52 vs x := by
  unfold c52 at h
  split at h
  · cases h
  · cases h
  · cases h
noncomputable def lS2 : List (Nat × (List T → Ans)) := (52, c52) :: lS0
noncomputable def iS2 : List (Nat × Pt) := iS0
noncomputable abbrev S2 : Env := En tgl lS2 iS2
theorem env_S2 : EnvOk Tryd.prog S2 := (env_fn env_S0 (fun _ _ => got52) (fun vs p d sz xs h _ => (nogl52 vs p d sz xs h).elim) pk52)
theorem ok75 (xs ys : List T) (hq : (IsI xs ∧ SzB xs) ∧ IsI ys) : FnOk Tryd.prog tgl 75 [.list 1 xs, .list 1 ys] (.bool (eqNs (nums xs) (nums ys))) := by
  refine fn_ok (Γ := B0) env_B0 Tryd.func75 low75 ?_
  obtain ⟨⟨⟨l, rfl, hl⟩, hs⟩, r, rfl, hr⟩ := hq
  have hlen := sz_lenB hs
  rw [nums_is, nums_is]
  conv => whnf
  repeat' (first
    | (refine brK_true rfl ?_; conv => whnf)
    | (refine brK_false rfl ?_; conv => whnf)
    | (refine brK_true (by assumption) ?_; conv => whnf)
    | (refine brK_false (by assumption) ?_; conv => whnf)
    | (refine brK_true ?_ ?_; (focus (simp only [List.length_nil, fx] <;> omega)); conv => whnf)
    | (refine brK_false ?_ ?_; (focus (simp only [List.length_nil, fx] <;> omega)); conv => whnf)
    | ((refine brK_of (fun h => ?_) (fun h => ?_)) <;> (have h2 := h; (try simp only [List.length_nil, fx] at h2); conv => whnf))
    | (refine reqK_of ?_ ?_; (focus (first | decide | omega | assumption | (simp only [List.length_nil, fx] <;> omega) | (simp [keyNew, sameKey, kEq] <;> omega))); conv => whnf)
    | (refine reqK_of ?_ ?_; rotate_left; (conv => whnf); rotate_left)
    | (refine nth_us ?_ ?_ ?_; (focus (first | omega | (simp only [List.length_nil, fx] <;> omega))); (focus (first | omega | (simp only [List.length_nil, fx] <;> omega))); conv => whnf)
    | (refine nth_is ?_ ?_ ?_; (focus (first | omega | (simp only [List.length_nil, fx] <;> omega))); (focus (first | omega | (simp only [List.length_nil, fx] <;> omega))); conv => whnf)
    | (refine nth_bs ?_ ?_ ?_; (focus (first | omega | (simp only [List.length_nil, fx] <;> omega))); (focus (first | omega | (simp only [List.length_nil, fx] <;> omega))); conv => whnf))
  · rw [show eqNs l r = false by unfold eqNs; rw [decide_eq_false_iff_not]; intro e; subst e; exact h2 rfl]
  · have hlr : l.length = r.length := by omega
    refine loopSet [] [.kill 5, .kill 14, .kill 15, .kill 16, .kill 17, .kill 18, .kill 19, .kill 20, .kill 21, .kill 22, .kill 23, .kill 24, .kill 25] (fun k : Nat => [(13, .t (.int .i64 (k : Int)))]) (fun _ => []) (fun k => k ≤ l.length ∧ l.take k = r.take k) (fun k => l.length - k) 0 ⟨Nat.zero_le _, rfl⟩ ?_
    conv => whnf
    refine ⟨⟨rfl, rfl⟩, fun k hk C hC => ?_⟩
    obtain ⟨hk1, hk2⟩ := hk
    conv => whnf
    repeat' (first
      | (refine brK_true rfl ?_; conv => whnf)
      | (refine brK_false rfl ?_; conv => whnf)
      | (refine brK_true (by assumption) ?_; conv => whnf)
      | (refine brK_false (by assumption) ?_; conv => whnf)
      | (refine brK_true ?_ ?_; (focus (simp only [List.length_nil, fx] <;> omega)); conv => whnf)
      | (refine brK_false ?_ ?_; (focus (simp only [List.length_nil, fx] <;> omega)); conv => whnf)
      | ((refine brK_of (fun h => ?_) (fun h => ?_)) <;> (have h2 := h; (try simp only [List.length_nil, fx] at h2); conv => whnf))
      | (refine reqK_of ?_ ?_; (focus (first | decide | omega | assumption | (simp only [List.length_nil, fx] <;> omega) | (simp [keyNew, sameKey, kEq] <;> omega))); conv => whnf)
      | (refine reqK_of ?_ ?_; rotate_left; (conv => whnf); rotate_left)
      | (refine nth_us ?_ ?_ ?_; (focus (first | omega | (simp only [List.length_nil, fx] <;> omega))); (focus (first | omega | (simp only [List.length_nil, fx] <;> omega))); conv => whnf)
      | (refine nth_is ?_ ?_ ?_; (focus (first | omega | (simp only [List.length_nil, fx] <;> omega))); (focus (first | omega | (simp only [List.length_nil, fx] <;> omega))); conv => whnf)
      | (refine nth_bs ?_ ?_ ?_; (focus (first | omega | (simp only [List.length_nil, fx] <;> omega))); (focus (first | omega | (simp only [List.length_nil, fx] <;> omega))); conv => whnf))
    · rw [eqNs_no (k := k) (by omega) (by omega) (by assumption)]
    · refine loopC (hC (k + 1) ⟨by omega, take_nextB hk2 (by omega) (by omega) (by assumption)⟩ (by omega)) ?_
      have hw : IntKind.i64.wrap ((k : Int) + 1) = (k : Int) + 1 := wrap_i64 ⟨by omega, by omega⟩
      rw [hw]; rfl
    · have hk3 : k = l.length := by omega
      subst hk3
      have : l = r := by rw [← List.take_length (l := l), hk2, hlr, List.take_length]
      subst this
      rw [show eqNs l l = true by simp [eqNs]]
open Classical in
noncomputable def c75 : List T → Ans
  | [.list 1 xs, .list 1 ys] => .req ((IsI xs ∧ SzB xs) ∧ IsI ys) (.bool (eqNs (nums xs) (nums ys)))
  | _ => .no
theorem got75 {vs : List T} {x : T} (h : Got (c75 vs) x) : FnOk Tryd.prog tgl 75 vs x := by
  unfold c75 at h
  split at h
  · obtain ⟨hq, e⟩ := got_req h; rw [e]; exact ok75 _ _ hq
  · exact (got_no h).elim
theorem nogl75 (vs : List T) (p : Prop) (d : Decidable p) (sz : Nat) (xs : List T) (h : c75 vs = @Ans.gl p d sz xs) : False := by
  unfold c75 at h
  split at h <;> cases h
theorem pk75 (vs : List T) (p : Prop) (d : Decidable p) (x : T) (h : c75 vs = @Ans.pk p d x) (hp : p) : FnOk Tryd.prog tgl 75 vs x := by
  unfold c75 at h
  split at h
  · cases h
  · cases h
noncomputable def lS3 : List (Nat × (List T → Ans)) := (75, c75) :: lS2
noncomputable def iS3 : List (Nat × Pt) := iS2
noncomputable abbrev S3 : Env := En tgl lS3 iS3
theorem env_S3 : EnvOk Tryd.prog S3 := (env_fn env_S2 (fun _ _ => got75) (fun vs p d sz xs h _ => (nogl75 vs p d sz xs h).elim) pk75)
theorem ok45 (xs ys : List T) (hq : (IsI xs ∧ SzB xs) ∧ (IsI ys ∧ SzB ys)) : FnOk Tryd.prog tgl 45 [.list 1 xs, .list 1 ys] (.bool (eqNs (srt (nums xs)) (srt (nums ys)))) := by
  refine fn_ok (Γ := S3) env_S3 Tryd.func45 low45 ?_
  obtain ⟨⟨⟨l, rfl, hl⟩, hs⟩, ⟨r, rfl, hr⟩, hs2⟩ := hq
  have q1 : IsI (is l) ∧ SzB (is l) := ⟨⟨l, rfl, hl⟩, hs⟩
  have q2 : IsI (is r) ∧ SzB (is r) := ⟨⟨r, rfl, hr⟩, hs2⟩
  have q3 : (IsI (is (srt l)) ∧ SzB (is (srt l))) ∧ IsI (is (srt r)) := ⟨⟨isI_srt hl, sz_srt hs⟩, isI_srt hr⟩
  rw [nums_is, nums_is]
  conv => whnf
  repeat' (first
    | (refine brK_true rfl ?_; conv => whnf)
    | (refine brK_false rfl ?_; conv => whnf)
    | (refine brK_true (by assumption) ?_; conv => whnf)
    | (refine brK_false (by assumption) ?_; conv => whnf)
    | (refine brK_true ?_ ?_; (focus (simp only [List.length_nil, fx] <;> omega)); conv => whnf)
    | (refine brK_false ?_ ?_; (focus (simp only [List.length_nil, fx] <;> omega)); conv => whnf)
    | ((refine brK_of (fun h => ?_) (fun h => ?_)) <;> (have h2 := h; (try simp only [List.length_nil, fx] at h2); conv => whnf))
    | (refine reqK_of ?_ ?_; (focus (first | decide | omega | assumption | (simp only [List.length_nil, fx] <;> omega) | (simp [keyNew, sameKey, kEq] <;> omega))); conv => whnf)
    | (refine reqK_of ?_ ?_; rotate_left; (conv => whnf); rotate_left)
    | (refine nth_us ?_ ?_ ?_; (focus (first | omega | (simp only [List.length_nil, fx] <;> omega))); (focus (first | omega | (simp only [List.length_nil, fx] <;> omega))); conv => whnf)
    | (refine nth_is ?_ ?_ ?_; (focus (first | omega | (simp only [List.length_nil, fx] <;> omega))); (focus (first | omega | (simp only [List.length_nil, fx] <;> omega))); conv => whnf)
    | (refine nth_bs ?_ ?_ ?_; (focus (first | omega | (simp only [List.length_nil, fx] <;> omega))); (focus (first | omega | (simp only [List.length_nil, fx] <;> omega))); conv => whnf))
  simp only [nums_is]
open Classical in
noncomputable def c45 : List T → Ans
  | [.list 1 xs, .list 1 ys] => .req ((IsI xs ∧ SzB xs) ∧ (IsI ys ∧ SzB ys)) (.bool (eqNs (srt (nums xs)) (srt (nums ys))))
  | _ => .no
theorem got45 {vs : List T} {x : T} (h : Got (c45 vs) x) : FnOk Tryd.prog tgl 45 vs x := by
  unfold c45 at h
  split at h
  · obtain ⟨hq, e⟩ := got_req h; rw [e]; exact ok45 _ _ hq
  · exact (got_no h).elim
theorem nogl45 (vs : List T) (p : Prop) (d : Decidable p) (sz : Nat) (xs : List T) (h : c45 vs = @Ans.gl p d sz xs) : False := by
  unfold c45 at h
  split at h <;> cases h
theorem pk45 (vs : List T) (p : Prop) (d : Decidable p) (x : T) (h : c45 vs = @Ans.pk p d x) (hp : p) : FnOk Tryd.prog tgl 45 vs x := by
  unfold c45 at h
  split at h
  · cases h
  · cases h
end Go.Nx
end
section
set_option linter.unusedVariables false
set_option linter.unusedSimpArgs false
set_option maxRecDepth 20000
set_option maxHeartbeats 4000000
namespace Go.Nx
open Go.RowKit Go.Proofs

theorem sz_B {l : List Int} (h : l.length ≤ 17592186044416) : SzB (is l) := by unfold SzB maxBytes; rw [is_len]; omega
theorem ok76 (xs : List T) (hq : IsI xs ∧ SzB xs) : FnGl Tryd.prog tgl 76 [.list 1 xs] 1 xs := by
  refine fnG_ok (Γ := B0) env_B0 Tryd.func76 low76 ?_
  obtain ⟨⟨l, rfl, hl⟩, hs⟩ := hq
  have hlen := sz_lenB hs
  conv => whnf
  repeat' (first
    | (refine brK_true rfl ?_; conv => whnf)
    | (refine brK_false rfl ?_; conv => whnf)
    | (refine brK_true (by assumption) ?_; conv => whnf)
    | (refine brK_false (by assumption) ?_; conv => whnf)
    | (refine brK_true ?_ ?_; (focus (simp only [List.length_nil, fx] <;> omega)); conv => whnf)
    | (refine brK_false ?_ ?_; (focus (simp only [List.length_nil, fx] <;> omega)); conv => whnf)
    | ((refine brK_of (fun h => ?_) (fun h => ?_)) <;> (have h2 := h; (try simp only [List.length_nil, fx] at h2); conv => whnf))
    | (refine reqK_of ?_ ?_; (focus (first | decide | omega | assumption | (simp only [List.length_nil, fx] <;> omega) | (simp [keyNew, sameKey, kEq] <;> omega))); conv => whnf)
    | (refine reqK_of ?_ ?_; rotate_left; (conv => whnf); rotate_left)
    | (refine nth_us ?_ ?_ ?_; (focus (first | omega | (simp only [List.length_nil, fx] <;> omega))); (focus (first | omega | (simp only [List.length_nil, fx] <;> omega))); conv => whnf)
    | (refine nth_is ?_ ?_ ?_; (focus (first | omega | (simp only [List.length_nil, fx] <;> omega))); (focus (first | omega | (simp only [List.length_nil, fx] <;> omega))); conv => whnf)
    | (refine nth_bs ?_ ?_ ?_; (focus (first | omega | (simp only [List.length_nil, fx] <;> omega))); (focus (first | omega | (simp only [List.length_nil, fx] <;> omega))); conv => whnf))
  refine altK_of ?_ (fun hnil => ?_)
  · conv => whnf
    repeat' (first
      | (refine brK_true rfl ?_; conv => whnf)
      | (refine brK_false rfl ?_; conv => whnf)
      | (refine brK_true (by assumption) ?_; conv => whnf)
      | (refine brK_false (by assumption) ?_; conv => whnf)
      | (refine brK_true ?_ ?_; (focus (simp only [List.length_nil, fx] <;> omega)); conv => whnf)
      | (refine brK_false ?_ ?_; (focus (simp only [List.length_nil, fx] <;> omega)); conv => whnf)
      | ((refine brK_of (fun h => ?_) (fun h => ?_)) <;> (have h2 := h; (try simp only [List.length_nil, fx] at h2); conv => whnf))
      | (refine reqK_of ?_ ?_; (focus (first | decide | omega | assumption | (simp only [List.length_nil, fx] <;> omega) | (simp [keyNew, sameKey, kEq] <;> omega))); conv => whnf)
      | (refine reqK_of ?_ ?_; rotate_left; (conv => whnf); rotate_left)
      | (refine nth_us ?_ ?_ ?_; (focus (first | omega | (simp only [List.length_nil, fx] <;> omega))); (focus (first | omega | (simp only [List.length_nil, fx] <;> omega))); conv => whnf)
      | (refine nth_is ?_ ?_ ?_; (focus (first | omega | (simp only [List.length_nil, fx] <;> omega))); (focus (first | omega | (simp only [List.length_nil, fx] <;> omega))); conv => whnf)
      | (refine nth_bs ?_ ?_ ?_; (focus (first | omega | (simp only [List.length_nil, fx] <;> omega))); (focus (first | omega | (simp only [List.length_nil, fx] <;> omega))); conv => whnf))
  · conv => whnf
    repeat' (first
      | (refine brK_true rfl ?_; conv => whnf)
      | (refine brK_false rfl ?_; conv => whnf)
      | (refine brK_true (by assumption) ?_; conv => whnf)
      | (refine brK_false (by assumption) ?_; conv => whnf)
      | (refine brK_true ?_ ?_; (focus (simp only [List.length_nil, fx] <;> omega)); conv => whnf)
      | (refine brK_false ?_ ?_; (focus (simp only [List.length_nil, fx] <;> omega)); conv => whnf)
      | ((refine brK_of (fun h => ?_) (fun h => ?_)) <;> (have h2 := h; (try simp only [List.length_nil, fx] at h2); conv => whnf))
      | (refine reqK_of ?_ ?_; (focus (first | decide | omega | assumption | (simp only [List.length_nil, fx] <;> omega) | (simp [keyNew, sameKey, kEq] <;> omega))); conv => whnf)
      | (refine reqK_of ?_ ?_; rotate_left; (conv => whnf); rotate_left)
      | (refine nth_us ?_ ?_ ?_; (focus (first | omega | (simp only [List.length_nil, fx] <;> omega))); (focus (first | omega | (simp only [List.length_nil, fx] <;> omega))); conv => whnf)
      | (refine nth_is ?_ ?_ ?_; (focus (first | omega | (simp only [List.length_nil, fx] <;> omega))); (focus (first | omega | (simp only [List.length_nil, fx] <;> omega))); conv => whnf)
      | (refine nth_bs ?_ ?_ ?_; (focus (first | omega | (simp only [List.length_nil, fx] <;> omega))); (focus (first | omega | (simp only [List.length_nil, fx] <;> omega))); conv => whnf))
    all_goals (first | exact hnil.symm | skip)
theorem ok76_2  (hq : True) : FnGl Tryd.prog tgl 76 [.nils] 1 [] := by
  refine fnG_ok (Γ := B0) env_B0 Tryd.func76 low76 ?_
  conv => whnf
  repeat' (first
    | (refine brK_true rfl ?_; conv => whnf)
    | (refine brK_false rfl ?_; conv => whnf)
    | (refine brK_true (by assumption) ?_; conv => whnf)
    | (refine brK_false (by assumption) ?_; conv => whnf)
    | (refine brK_true ?_ ?_; (focus (simp only [List.length_nil, fx] <;> omega)); conv => whnf)
    | (refine brK_false ?_ ?_; (focus (simp only [List.length_nil, fx] <;> omega)); conv => whnf)
    | ((refine brK_of (fun h => ?_) (fun h => ?_)) <;> (have h2 := h; (try simp only [List.length_nil, fx] at h2); conv => whnf))
    | (refine reqK_of ?_ ?_; (focus (first | decide | omega | assumption | (simp only [List.length_nil, fx] <;> omega) | (simp [keyNew, sameKey, kEq] <;> omega))); conv => whnf)
    | (refine reqK_of ?_ ?_; rotate_left; (conv => whnf); rotate_left)
    | (refine nth_us ?_ ?_ ?_; (focus (first | omega | (simp only [List.length_nil, fx] <;> omega))); (focus (first | omega | (simp only [List.length_nil, fx] <;> omega))); conv => whnf)
    | (refine nth_is ?_ ?_ ?_; (focus (first | omega | (simp only [List.length_nil, fx] <;> omega))); (focus (first | omega | (simp only [List.length_nil, fx] <;> omega))); conv => whnf)
    | (refine nth_bs ?_ ?_ ?_; (focus (first | omega | (simp only [List.length_nil, fx] <;> omega))); (focus (first | omega | (simp only [List.length_nil, fx] <;> omega))); conv => whnf))
open Classical in
noncomputable def c76 : List T → Ans
  | [.list 1 xs] => .gl (IsI xs ∧ SzB xs) 1 xs
  | [.nils] => .gl (True) 1 []
  | _ => .no
theorem got76 {vs : List T} {x : T} (h : Got (c76 vs) x) : FnOk Tryd.prog tgl 76 vs x := by
  unfold c76 at h
  split at h
  · exact (got_gl h).elim
  · exact (got_gl h).elim
  · exact (got_no h).elim
theorem gl76 (vs : List T) (p : Prop) (d : Decidable p) (sz : Nat) (xs : List T) (h : c76 vs = @Ans.gl p d sz xs) (hp : p) : FnGl Tryd.prog tgl 76 vs sz xs := by
  unfold c76 at h
  split at h
  · cases h; exact ok76 _ hp
  · cases h; exact ok76_2 hp
  · cases h
theorem pk76 (vs : List T) (p : Prop) (d : Decidable p) (x : T) (h : c76 vs = @Ans.pk p d x) (hp : p) : FnOk Tryd.prog tgl 76 vs x := by
  unfold c76 at h
  split at h <;> cases h
theorem ok83 (n : Int) (hq : 0 ≤ n ∧ n ≤ 17592186044416) : FnGl Tryd.prog tgl 83 [.nils, .int .i64 n] 1 [] := by
  refine fnG_ok (Γ := B0) env_B0 Tryd.func83 low83 ?_
  have hw : IntKind.i64.wrap (n - 0) = n := by rw [Int.sub_zero]; exact wrap_i64 ⟨by omega, by omega⟩
  have hw0 : IntKind.i64.wrap (0 - 0) = 0 := rfl
  have hz : IntKind.i64.wrap (0 - (([] : List T).length : Int)) = 0 := rfl
  have hn : IntKind.i64.wrap (n - IntKind.i64.wrap (0 - (([] : List T).length : Int))) = n := by rw [hz]; exact hw
  conv => whnf
  repeat' (first
    | (refine brK_true rfl ?_; conv => whnf)
    | (refine brK_false rfl ?_; conv => whnf)
    | (refine brK_true (by assumption) ?_; conv => whnf)
    | (refine brK_false (by assumption) ?_; conv => whnf)
    | (refine brK_true ?_ ?_; (focus (simp only [List.length_nil, fx, hw0, hw, hn] <;> omega)); conv => whnf)
    | (refine brK_false ?_ ?_; (focus (simp only [List.length_nil, fx, hw0, hw, hn] <;> omega)); conv => whnf)
    | ((refine brK_of (fun h => ?_) (fun h => ?_)) <;> (have h2 := h; (try simp only [List.length_nil, fx, hw0, hw, hn] at h2); conv => whnf))
    | (refine reqK_of ?_ ?_; (focus (first | decide | omega | assumption | (simp only [List.length_nil, fx, hw0, hw, hn] <;> omega) | (simp [keyNew, sameKey, kEq] <;> omega))); conv => whnf)
    | (refine reqK_of ?_ ?_; rotate_left; (conv => whnf); rotate_left)
    | (refine nth_us ?_ ?_ ?_; (focus (first | omega | (simp only [List.length_nil, fx, hw0, hw, hn] <;> omega))); (focus (first | omega | (simp only [List.length_nil, fx, hw0, hw, hn] <;> omega))); conv => whnf)
    | (refine nth_is ?_ ?_ ?_; (focus (first | omega | (simp only [List.length_nil, fx, hw0, hw, hn] <;> omega))); (focus (first | omega | (simp only [List.length_nil, fx, hw0, hw, hn] <;> omega))); conv => whnf)
    | (refine nth_bs ?_ ?_ ?_; (focus (first | omega | (simp only [List.length_nil, fx, hw0, hw, hn] <;> omega))); (focus (first | omega | (simp only [List.length_nil, fx, hw0, hw, hn] <;> omega))); conv => whnf))
  · rw [hn]; unfold maxBytes; omega
  · rw [hn, List.length_replicate]; unfold maxBytes; omega
  · simp [subL]
open Classical in
noncomputable def c83 : List T → Ans
  | [.nils, .int .i64 n] => .gl (0 ≤ n ∧ n ≤ 17592186044416) 1 []
  | _ => .no
theorem got83 {vs : List T} {x : T} (h : Got (c83 vs) x) : FnOk Tryd.prog tgl 83 vs x := by
  unfold c83 at h
  split at h
  · exact (got_gl h).elim
  · exact (got_no h).elim
theorem gl83 (vs : List T) (p : Prop) (d : Decidable p) (sz : Nat) (xs : List T) (h : c83 vs = @Ans.gl p d sz xs) (hp : p) : FnGl Tryd.prog tgl 83 vs sz xs := by
  unfold c83 at h
  split at h
  · cases h; exact ok83 _ hp
  · cases h
theorem pk83 (vs : List T) (p : Prop) (d : Decidable p) (x : T) (h : c83 vs = @Ans.pk p d x) (hp : p) : FnOk Tryd.prog tgl 83 vs x := by
  unfold c83 at h
  split at h <;> cases h
theorem fnOk_of {f : FuncId} {vs : List T} {x : T} (he : Enter Tryd.prog f) (h : ∀ (S : Cells) (w : World) (args : Array Value), args.size = vs.length → (∀ (i : Nat) (c : T) (u : Value), vs[i]? = some c → args[i]? = some u → RelT S w c u) →
    Calls Tryd.prog f args w fun e w' => ∃ v, e = .returned v ∧ w' = w ∧ RelT S w x v) : FnOk Tryd.prog tgl f vs x := by
  refine ⟨he, fun S w args hlt hgl hsz hrel => (h S w args hsz hrel).mono ?_⟩
  rintro e w' ⟨v, rfl, rfl, hv⟩
  exact ⟨v, rfl, hv.mono (fun b o hb => .inl hb) (fun _ _ _ => rfl), Below.refl _ _⟩
theorem ok47 (xs : List T) (o : Int) (hq : IsI xs ∧ SzB xs) : FnOk Tryd.prog tgl 47 [.list 1 xs, .int .i64 o] (.int .i64 ((nums xs).count o)) := by
  refine fn_ok (Γ := B0) env_B0 Tryd.func47 low47 ?_
  obtain ⟨⟨l, rfl, hl⟩, hs⟩ := hq
  have hlen := sz_lenB hs
  rw [nums_is]
  conv => whnf
  repeat' (first
    | (refine brK_true rfl ?_; conv => whnf)
    | (refine brK_false rfl ?_; conv => whnf)
    | (refine brK_true (by assumption) ?_; conv => whnf)
    | (refine brK_false (by assumption) ?_; conv => whnf)
    | (refine brK_true ?_ ?_; (focus (simp only [List.length_nil, fx] <;> omega)); conv => whnf)
    | (refine brK_false ?_ ?_; (focus (simp only [List.length_nil, fx] <;> omega)); conv => whnf)
    | ((refine brK_of (fun h => ?_) (fun h => ?_)) <;> (have h2 := h; (try simp only [List.length_nil, fx] at h2); conv => whnf))
    | (refine reqK_of ?_ ?_; (focus (first | decide | omega | assumption | (simp only [List.length_nil, fx] <;> omega) | (simp [keyNew, sameKey, kEq] <;> omega))); conv => whnf)
    | (refine reqK_of ?_ ?_; rotate_left; (conv => whnf); rotate_left)
    | (refine nth_us ?_ ?_ ?_; (focus (first | omega | (simp only [List.length_nil, fx] <;> omega))); (focus (first | omega | (simp only [List.length_nil, fx] <;> omega))); conv => whnf)
    | (refine nth_is ?_ ?_ ?_; (focus (first | omega | (simp only [List.length_nil, fx] <;> omega))); (focus (first | omega | (simp only [List.length_nil, fx] <;> omega))); conv => whnf)
    | (refine nth_bs ?_ ?_ ?_; (focus (first | omega | (simp only [List.length_nil, fx] <;> omega))); (focus (first | omega | (simp only [List.length_nil, fx] <;> omega))); conv => whnf))
  have hcl := List.count_le_length (a := o) (l := l)
  refine loopUp [] [.kill 7, .kill 11, .kill 12, .kill 13, .kill 14, .kill 15, .kill 16, .kill 17, .kill 18, .kill 19] (fun k : Nat => [(5, .t (.int .i64 ((l.take k).count o))), (10, .t (.int .i64 (k : Int)))]) (fun _ => []) (fun k => k ≤ l.length) (fun k => l.length - k) 0 (Nat.zero_le _) ?_
  conv => whnf
  refine ⟨⟨rfl, rfl⟩, fun k hk C hC => ?_⟩
  have hw : IntKind.i64.wrap ((k : Int) + 1) = (k : Int) + 1 := wrap_i64 ⟨by omega, by omega⟩
  have hct := List.count_le_length (a := o) (l := l.take k)
  have htl : (l.take k).length ≤ l.length := by simp; omega
  have hw2 : IntKind.i64.wrap (((l.take k).count o : Nat) + 1 : Int) = ((l.take k).count o : Nat) + 1 := wrap_i64 ⟨by omega, by omega⟩
  have hts : k < l.length → l.take (k + 1) = l.take k ++ [at0 l k] := fun h => by rw [List.take_add_one]; simp [at0, h]
  conv => whnf
  repeat' (first
    | (refine brK_true rfl ?_; conv => whnf)
    | (refine brK_false rfl ?_; conv => whnf)
    | (refine brK_true (by assumption) ?_; conv => whnf)
    | (refine brK_false (by assumption) ?_; conv => whnf)
    | (refine brK_true ?_ ?_; (focus (simp only [List.length_nil, fx] <;> omega)); conv => whnf)
    | (refine brK_false ?_ ?_; (focus (simp only [List.length_nil, fx] <;> omega)); conv => whnf)
    | ((refine brK_of (fun h => ?_) (fun h => ?_)) <;> (have h2 := h; (try simp only [List.length_nil, fx] at h2); conv => whnf))
    | (refine reqK_of ?_ ?_; (focus (first | decide | omega | assumption | (simp only [List.length_nil, fx] <;> omega) | (simp [keyNew, sameKey, kEq] <;> omega))); conv => whnf)
    | (refine reqK_of ?_ ?_; rotate_left; (conv => whnf); rotate_left)
    | (refine nth_us ?_ ?_ ?_; (focus (first | omega | (simp only [List.length_nil, fx] <;> omega))); (focus (first | omega | (simp only [List.length_nil, fx] <;> omega))); conv => whnf)
    | (refine nth_is ?_ ?_ ?_; (focus (first | omega | (simp only [List.length_nil, fx] <;> omega))); (focus (first | omega | (simp only [List.length_nil, fx] <;> omega))); conv => whnf)
    | (refine nth_bs ?_ ?_ ?_; (focus (first | omega | (simp only [List.length_nil, fx] <;> omega))); (focus (first | omega | (simp only [List.length_nil, fx] <;> omega))); conv => whnf))
  · refine loopC (hC (k + 1) (by omega) (by omega)) ?_
    rw [hw, hw2, hts (by omega), List.count_append, show at0 l k = o by assumption, Int.natCast_succ]
    simp only [List.count_singleton_self, Int.natCast_succ]
    rfl
  · refine loopC (hC (k + 1) (by omega) (by omega)) ?_
    have h0 : ([at0 l k] : List Int).count o = 0 := by
      rw [List.count_eq_zero]; intro hm; simp at hm; exact absurd hm.symm (by assumption)
    rw [hw, hts (by omega), List.count_append, h0, Int.natCast_succ]
    rfl
  · rw [List.take_of_length_le (by omega)]
open Classical in
noncomputable def c47 : List T → Ans
  | [.list 1 xs, .int .i64 o] => .req (IsI xs ∧ SzB xs) (.int .i64 ((nums xs).count o))
  | _ => .no
theorem got47 {vs : List T} {x : T} (h : Got (c47 vs) x) : FnOk Tryd.prog tgl 47 vs x := by
  unfold c47 at h
  split at h
  · obtain ⟨hq, e⟩ := got_req h; rw [e]; exact ok47 _ _ hq
  · exact (got_no h).elim
theorem nogl47 (vs : List T) (p : Prop) (d : Decidable p) (sz : Nat) (xs : List T) (h : c47 vs = @Ans.gl p d sz xs) : False := by
  unfold c47 at h
  split at h <;> cases h
theorem pk47 (vs : List T) (p : Prop) (d : Decidable p) (x : T) (h : c47 vs = @Ans.pk p d x) (hp : p) : FnOk Tryd.prog tgl 47 vs x := by
  unfold c47 at h
  split at h
  · cases h
  · cases h
noncomputable def lB4 : List (Nat × (List T → Ans)) := (52, c52) :: (45, c45) :: (47, c47) :: (83, c83) :: (76, c76) :: lS3
noncomputable def iB4 : List (Nat × Pt) := iS3
noncomputable abbrev B4 : Env := En tgl lB4 iB4
theorem env_B4 : EnvOk Tryd.prog B4 := (env_fn (env_fn (env_fn (env_fn (env_fn env_S3 (fun _ _ => got76) gl76 pk76) (fun _ _ => got83) gl83 pk83) (fun _ _ => got47) (fun vs p d sz xs h _ => (nogl47 vs p d sz xs h).elim) pk47) (fun _ _ => got45) (fun vs p d sz xs h _ => (nogl45 vs p d sz xs h).elim) pk45) (fun _ _ => got52) (fun vs p d sz xs h _ => (nogl52 vs p d sz xs h).elim) pk52)
theorem ok46 (xs : List T) (hq : IsI xs ∧ SzB xs) : FnOk Tryd.prog tgl 46 [.list 1 xs] (.list 1 (is (srt (nums xs)))) := by
  refine fn_ok (Γ := B4) env_B4 Tryd.func46 low46 ?_
  conv => whnf
  repeat' (first
    | (refine brK_true rfl ?_; conv => whnf)
    | (refine brK_false rfl ?_; conv => whnf)
    | (refine brK_true (by assumption) ?_; conv => whnf)
    | (refine brK_false (by assumption) ?_; conv => whnf)
    | (refine brK_true ?_ ?_; (focus (simp only [List.length_nil, fx] <;> omega)); conv => whnf)
    | (refine brK_false ?_ ?_; (focus (simp only [List.length_nil, fx] <;> omega)); conv => whnf)
    | ((refine brK_of (fun h => ?_) (fun h => ?_)) <;> (have h2 := h; (try simp only [List.length_nil, fx] at h2); conv => whnf))
    | (refine reqK_of ?_ ?_; (focus (first | decide | omega | assumption | (simp only [List.length_nil, fx] <;> omega) | (simp [keyNew, sameKey, kEq] <;> omega))); conv => whnf)
    | (refine reqK_of ?_ ?_; rotate_left; (conv => whnf); rotate_left)
    | (refine nth_us ?_ ?_ ?_; (focus (first | omega | (simp only [List.length_nil, fx] <;> omega))); (focus (first | omega | (simp only [List.length_nil, fx] <;> omega))); conv => whnf)
    | (refine nth_is ?_ ?_ ?_; (focus (first | omega | (simp only [List.length_nil, fx] <;> omega))); (focus (first | omega | (simp only [List.length_nil, fx] <;> omega))); conv => whnf)
    | (refine nth_bs ?_ ?_ ?_; (focus (first | omega | (simp only [List.length_nil, fx] <;> omega))); (focus (first | omega | (simp only [List.length_nil, fx] <;> omega))); conv => whnf))
open Classical in
noncomputable def c46 : List T → Ans
  | [.list 1 xs] => .req (IsI xs ∧ SzB xs) (.list 1 (is (srt (nums xs))))
  | _ => .no
theorem got46 {vs : List T} {x : T} (h : Got (c46 vs) x) : FnOk Tryd.prog tgl 46 vs x := by
  unfold c46 at h
  split at h
  · obtain ⟨hq, e⟩ := got_req h; rw [e]; exact ok46 _ hq
  · exact (got_no h).elim
theorem nogl46 (vs : List T) (p : Prop) (d : Decidable p) (sz : Nat) (xs : List T) (h : c46 vs = @Ans.gl p d sz xs) : False := by
  unfold c46 at h
  split at h <;> cases h
theorem pk46 (vs : List T) (p : Prop) (d : Decidable p) (x : T) (h : c46 vs = @Ans.pk p d x) (hp : p) : FnOk Tryd.prog tgl 46 vs x := by
  unfold c46 at h
  split at h
  · cases h
  · cases h
theorem nth_twoA {a b : T} {i : Int} {K : T → Prop} (h0 : i = 0) (h1 : 0 ≤ i) (h : K a) : nthK [a, b] i K := by
  subst h0; exact nthK_of a (by omega) rfl h
theorem nth_twoB {a b : T} {i : Int} {K : T → Prop} (h0 : i = 1) (h1 : 0 ≤ i) (h : K b) : nthK [a, b] i K := by
  subst h0; exact nthK_of b (by omega) rfl h
def cat2 (l r : List Int) : Nat → List Int
  | 0 => []
  | 1 => l
  | _ => l ++ r
theorem ok53 (xs ys : List T) (hq : (IsI xs ∧ IsI ys) ∧ (xs.length + ys.length) * 8 ≤ maxBytes) : FnOk Tryd.prog tgl 53 [.list 1 [.list 1 xs, .list 1 ys]] (.list 1 (xs ++ ys)) := by
  refine fn_ok (Γ := B4) env_B4 Tryd.func53 low53 ?_
  obtain ⟨⟨⟨l, rfl, hl⟩, ⟨r, rfl, hr⟩⟩, hs⟩ := hq
  unfold maxBytes at hs
  rw [is_len, is_len] at hs
  conv => whnf
  repeat' (first
    | (refine brK_true rfl ?_; conv => whnf)
    | (refine brK_false rfl ?_; conv => whnf)
    | (refine brK_true (by assumption) ?_; conv => whnf)
    | (refine brK_false (by assumption) ?_; conv => whnf)
    | (refine brK_true ?_ ?_; (focus (simp only [List.length_nil, fx] <;> omega)); conv => whnf)
    | (refine brK_false ?_ ?_; (focus (simp only [List.length_nil, fx] <;> omega)); conv => whnf)
    | ((refine brK_of (fun h => ?_) (fun h => ?_)) <;> (have h2 := h; (try simp only [List.length_nil, fx] at h2); conv => whnf))
    | (refine reqK_of ?_ ?_; (focus (first | decide | omega | assumption | (simp only [List.length_nil, fx] <;> omega) | (simp [keyNew, sameKey, kEq] <;> omega))); conv => whnf)
    | (refine reqK_of ?_ ?_; rotate_left; (conv => whnf); rotate_left)
    | (refine nth_us ?_ ?_ ?_; (focus (first | omega | (simp only [List.length_nil, fx] <;> omega))); (focus (first | omega | (simp only [List.length_nil, fx] <;> omega))); conv => whnf)
    | (refine nth_is ?_ ?_ ?_; (focus (first | omega | (simp only [List.length_nil, fx] <;> omega))); (focus (first | omega | (simp only [List.length_nil, fx] <;> omega))); conv => whnf)
    | (refine nth_bs ?_ ?_ ?_; (focus (first | omega | (simp only [List.length_nil, fx] <;> omega))); (focus (first | omega | (simp only [List.length_nil, fx] <;> omega))); conv => whnf))
  refine loopUp [] [.kill 5, .kill 12, .kill 13, .kill 14, .kill 15, .kill 16, .kill 17, .kill 18, .kill 19, .kill 20, .kill 21, .kill 22] (fun k : Nat => [(3, .t (.int .i64 ((cat2 l r k).length : Nat))), (11, .t (.int .i64 (k : Int)))]) (fun _ => []) (fun k => k ≤ 2) (fun k => 2 - k) 0 (Nat.zero_le _) ?_
  conv => whnf
  refine ⟨⟨rfl, rfl⟩, fun k hk C hC => ?_⟩
  have hc2 : (cat2 l r k).length ≤ l.length + r.length := by
    unfold cat2; split <;> simp
  have hw0 : IntKind.i64.wrap (((0 : Nat) : Int) + 1) = ((0 + 1 : Nat) : Int) := rfl
  have hw1 : IntKind.i64.wrap (((1 : Nat) : Int) + 1) = ((1 + 1 : Nat) : Int) := rfl
  rcases (show k = 0 ∨ k = 1 ∨ k = 2 by omega) with rfl | rfl | rfl
  · have hw2 : IntKind.i64.wrap (((cat2 l r 0).length : Nat) + ((is l).length : Int)) = ((cat2 l r (0 + 1)).length : Nat) := by
      rw [is_len]
      show IntKind.i64.wrap (((0 : Nat) : Int) + _) = _
      rw [Int.natCast_zero, Int.zero_add]; exact wrap_i64 ⟨by omega, by omega⟩
    conv => whnf
    repeat' (first
      | (refine brK_true rfl ?_; conv => whnf)
      | (refine brK_false rfl ?_; conv => whnf)
      | (refine brK_true (by assumption) ?_; conv => whnf)
      | (refine brK_false (by assumption) ?_; conv => whnf)
      | (refine brK_true ?_ ?_; (focus (simp only [List.length_nil, fx, hw2, List.length_cons, List.length_nil] <;> omega)); conv => whnf)
      | (refine brK_false ?_ ?_; (focus (simp only [List.length_nil, fx, hw2, List.length_cons, List.length_nil] <;> omega)); conv => whnf)
      | ((refine brK_of (fun h => ?_) (fun h => ?_)) <;> (have h2 := h; (try simp only [List.length_nil, fx, hw2, List.length_cons, List.length_nil] at h2); conv => whnf))
      | (refine reqK_of ?_ ?_; (focus (first | decide | omega | assumption | (simp only [List.length_nil, fx, hw2, List.length_cons, List.length_nil] <;> omega) | (simp [keyNew, sameKey, kEq] <;> omega))); conv => whnf)
      | (refine reqK_of ?_ ?_; rotate_left; (conv => whnf); rotate_left)
      | (refine nth_twoB ?_ ?_ ?_; (focus (first | omega | (simp only [List.length_nil, fx, hw2, List.length_cons, List.length_nil] <;> omega))); (focus (first | omega | (simp only [List.length_nil, fx, hw2, List.length_cons, List.length_nil] <;> omega))); conv => whnf)
      | (refine nth_twoA ?_ ?_ ?_; (focus (first | omega | (simp only [List.length_nil, fx, hw2, List.length_cons, List.length_nil] <;> omega))); (focus (first | omega | (simp only [List.length_nil, fx, hw2, List.length_cons, List.length_nil] <;> omega))); conv => whnf)
      | (refine nth_us ?_ ?_ ?_; (focus (first | omega | (simp only [List.length_nil, fx, hw2, List.length_cons, List.length_nil] <;> omega))); (focus (first | omega | (simp only [List.length_nil, fx, hw2, List.length_cons, List.length_nil] <;> omega))); conv => whnf)
      | (refine nth_is ?_ ?_ ?_; (focus (first | omega | (simp only [List.length_nil, fx, hw2, List.length_cons, List.length_nil] <;> omega))); (focus (first | omega | (simp only [List.length_nil, fx, hw2, List.length_cons, List.length_nil] <;> omega))); conv => whnf)
      | (refine nth_bs ?_ ?_ ?_; (focus (first | omega | (simp only [List.length_nil, fx, hw2, List.length_cons, List.length_nil] <;> omega))); (focus (first | omega | (simp only [List.length_nil, fx, hw2, List.length_cons, List.length_nil] <;> omega))); conv => whnf))
    all_goals first
      | (refine loopC (hC (0 + 1) (by omega) (by omega)) ?_
         rw [hw2, hw0]; rfl)
      | (rw [is_len] at hw2
         exfalso; omega)
  · have hw2 : IntKind.i64.wrap (((cat2 l r 1).length : Nat) + ((is r).length : Int)) = ((cat2 l r (1 + 1)).length : Nat) := by
      rw [is_len]
      show IntKind.i64.wrap ((l.length : Int) + _) = ((l ++ r).length : Nat)
      rw [List.length_append, Int.natCast_add]; exact wrap_i64 ⟨by omega, by omega⟩
    conv => whnf
    repeat' (first
      | (refine brK_true rfl ?_; conv => whnf)
      | (refine brK_false rfl ?_; conv => whnf)
      | (refine brK_true (by assumption) ?_; conv => whnf)
      | (refine brK_false (by assumption) ?_; conv => whnf)
      | (refine brK_true ?_ ?_; (focus (simp only [List.length_nil, fx, hw2, List.length_cons, List.length_nil] <;> omega)); conv => whnf)
      | (refine brK_false ?_ ?_; (focus (simp only [List.length_nil, fx, hw2, List.length_cons, List.length_nil] <;> omega)); conv => whnf)
      | ((refine brK_of (fun h => ?_) (fun h => ?_)) <;> (have h2 := h; (try simp only [List.length_nil, fx, hw2, List.length_cons, List.length_nil] at h2); conv => whnf))
      | (refine reqK_of ?_ ?_; (focus (first | decide | omega | assumption | (simp only [List.length_nil, fx, hw2, List.length_cons, List.length_nil] <;> omega) | (simp [keyNew, sameKey, kEq] <;> omega))); conv => whnf)
      | (refine reqK_of ?_ ?_; rotate_left; (conv => whnf); rotate_left)
      | (refine nth_twoB ?_ ?_ ?_; (focus (first | omega | (simp only [List.length_nil, fx, hw2, List.length_cons, List.length_nil] <;> omega))); (focus (first | omega | (simp only [List.length_nil, fx, hw2, List.length_cons, List.length_nil] <;> omega))); conv => whnf)
      | (refine nth_twoA ?_ ?_ ?_; (focus (first | omega | (simp only [List.length_nil, fx, hw2, List.length_cons, List.length_nil] <;> omega))); (focus (first | omega | (simp only [List.length_nil, fx, hw2, List.length_cons, List.length_nil] <;> omega))); conv => whnf)
      | (refine nth_us ?_ ?_ ?_; (focus (first | omega | (simp only [List.length_nil, fx, hw2, List.length_cons, List.length_nil] <;> omega))); (focus (first | omega | (simp only [List.length_nil, fx, hw2, List.length_cons, List.length_nil] <;> omega))); conv => whnf)
      | (refine nth_is ?_ ?_ ?_; (focus (first | omega | (simp only [List.length_nil, fx, hw2, List.length_cons, List.length_nil] <;> omega))); (focus (first | omega | (simp only [List.length_nil, fx, hw2, List.length_cons, List.length_nil] <;> omega))); conv => whnf)
      | (refine nth_bs ?_ ?_ ?_; (focus (first | omega | (simp only [List.length_nil, fx, hw2, List.length_cons, List.length_nil] <;> omega))); (focus (first | omega | (simp only [List.length_nil, fx, hw2, List.length_cons, List.length_nil] <;> omega))); conv => whnf))
    all_goals first
      | (refine loopC (hC (1 + 1) (by omega) (by omega)) ?_
         rw [hw2, hw1]; rfl)
      | (rw [is_len] at hw2
         exfalso; omega)
  · conv => whnf
    repeat' (first
      | (refine brK_true rfl ?_; conv => whnf)
      | (refine brK_false rfl ?_; conv => whnf)
      | (refine brK_true (by assumption) ?_; conv => whnf)
      | (refine brK_false (by assumption) ?_; conv => whnf)
      | (refine brK_true ?_ ?_; (focus (simp only [List.length_nil, fx, List.length_cons, List.length_nil] <;> omega)); conv => whnf)
      | (refine brK_false ?_ ?_; (focus (simp only [List.length_nil, fx, List.length_cons, List.length_nil] <;> omega)); conv => whnf)
      | ((refine brK_of (fun h => ?_) (fun h => ?_)) <;> (have h2 := h; (try simp only [List.length_nil, fx, List.length_cons, List.length_nil] at h2); conv => whnf))
      | (refine reqK_of ?_ ?_; (focus (first | decide | omega | assumption | (simp only [List.length_nil, fx, List.length_cons, List.length_nil] <;> omega) | (simp [keyNew, sameKey, kEq] <;> omega))); conv => whnf)
      | (refine reqK_of ?_ ?_; rotate_left; (conv => whnf); rotate_left)
      | (refine nth_twoB ?_ ?_ ?_; (focus (first | omega | (simp only [List.length_nil, fx, List.length_cons, List.length_nil] <;> omega))); (focus (first | omega | (simp only [List.length_nil, fx, List.length_cons, List.length_nil] <;> omega))); conv => whnf)
      | (refine nth_twoA ?_ ?_ ?_; (focus (first | omega | (simp only [List.length_nil, fx, List.length_cons, List.length_nil] <;> omega))); (focus (first | omega | (simp only [List.length_nil, fx, List.length_cons, List.length_nil] <;> omega))); conv => whnf)
      | (refine nth_us ?_ ?_ ?_; (focus (first | omega | (simp only [List.length_nil, fx, List.length_cons, List.length_nil] <;> omega))); (focus (first | omega | (simp only [List.length_nil, fx, List.length_cons, List.length_nil] <;> omega))); conv => whnf)
      | (refine nth_is ?_ ?_ ?_; (focus (first | omega | (simp only [List.length_nil, fx, List.length_cons, List.length_nil] <;> omega))); (focus (first | omega | (simp only [List.length_nil, fx, List.length_cons, List.length_nil] <;> omega))); conv => whnf)
      | (refine nth_bs ?_ ?_ ?_; (focus (first | omega | (simp only [List.length_nil, fx, List.length_cons, List.length_nil] <;> omega))); (focus (first | omega | (simp only [List.length_nil, fx, List.length_cons, List.length_nil] <;> omega))); conv => whnf))
    refine loopFn [.kill 24, .ren 88 1001] (fun s => [.kill 8, .kill 28, .kill 29, .kill 30, .kill 31, .kill 32, .kill 33, .kill 34, .keep [97], .ren 97 1001]) (fun k : Nat => [(6, .sl 1001 0 none), (27, .t (.int .i64 (k : Int)))]) (fun k => [(1001, .lst 1 (is (cat2 l r k)) 1)]) (fun k => k ≤ 2) (fun k => 2 - k) 0 (Nat.zero_le _) ?_
    conv => whnf
    refine ⟨⟨rfl, rfl⟩, fun j hj D hD => ?_⟩
    have hcj : (cat2 l r j).length ≤ l.length + r.length := by
      unfold cat2; split <;> simp
    clear hC C
    rcases (show j = 0 ∨ j = 1 ∨ j = 2 by omega) with rfl | rfl | rfl
    · have hb1 : ((is (cat2 l r 0)).length + (is l).length) * 8 ≤ maxBytes := by rw [is_len, is_len]; unfold maxBytes; show (0 + l.length) * 8 ≤ _; omega
      conv => whnf
      repeat' (first
        | (refine brK_true rfl ?_; conv => whnf)
        | (refine brK_false rfl ?_; conv => whnf)
        | (refine brK_true (by assumption) ?_; conv => whnf)
        | (refine brK_false (by assumption) ?_; conv => whnf)
        | (refine brK_true ?_ ?_; (focus (simp only [List.length_nil, fx, List.length_cons, List.length_nil] <;> omega)); conv => whnf)
        | (refine brK_false ?_ ?_; (focus (simp only [List.length_nil, fx, List.length_cons, List.length_nil] <;> omega)); conv => whnf)
        | ((refine brK_of (fun h => ?_) (fun h => ?_)) <;> (have h2 := h; (try simp only [List.length_nil, fx, List.length_cons, List.length_nil] at h2); conv => whnf))
        | (refine reqK_of ?_ ?_; (focus (first | decide | omega | assumption | (simp only [List.length_nil, fx, List.length_cons, List.length_nil] <;> omega) | (simp [keyNew, sameKey, kEq] <;> omega))); conv => whnf)
        | (refine reqK_of ?_ ?_; rotate_left; (conv => whnf); rotate_left)
        | (refine nth_twoB ?_ ?_ ?_; (focus (first | omega | (simp only [List.length_nil, fx, List.length_cons, List.length_nil] <;> omega))); (focus (first | omega | (simp only [List.length_nil, fx, List.length_cons, List.length_nil] <;> omega))); conv => whnf)
        | (refine nth_twoA ?_ ?_ ?_; (focus (first | omega | (simp only [List.length_nil, fx, List.length_cons, List.length_nil] <;> omega))); (focus (first | omega | (simp only [List.length_nil, fx, List.length_cons, List.length_nil] <;> omega))); conv => whnf)
        | (refine nth_us ?_ ?_ ?_; (focus (first | omega | (simp only [List.length_nil, fx, List.length_cons, List.length_nil] <;> omega))); (focus (first | omega | (simp only [List.length_nil, fx, List.length_cons, List.length_nil] <;> omega))); conv => whnf)
        | (refine nth_is ?_ ?_ ?_; (focus (first | omega | (simp only [List.length_nil, fx, List.length_cons, List.length_nil] <;> omega))); (focus (first | omega | (simp only [List.length_nil, fx, List.length_cons, List.length_nil] <;> omega))); conv => whnf)
        | (refine nth_bs ?_ ?_ ?_; (focus (first | omega | (simp only [List.length_nil, fx, List.length_cons, List.length_nil] <;> omega))); (focus (first | omega | (simp only [List.length_nil, fx, List.length_cons, List.length_nil] <;> omega))); conv => whnf))
      all_goals first
        | exact hb1
        | (refine loopC (hD (0 + 1) (by omega) (by omega)) ?_
           rw [hw0]; rfl)
        | skip
      all_goals trace_state
    · have hb1 : ((is (cat2 l r 1)).length + (is r).length) * 8 ≤ maxBytes := by rw [is_len, is_len]; unfold maxBytes; show (l.length + r.length) * 8 ≤ _; omega
      conv => whnf
      repeat' (first
        | (refine brK_true rfl ?_; conv => whnf)
        | (refine brK_false rfl ?_; conv => whnf)
        | (refine brK_true (by assumption) ?_; conv => whnf)
        | (refine brK_false (by assumption) ?_; conv => whnf)
        | (refine brK_true ?_ ?_; (focus (simp only [List.length_nil, fx, List.length_cons, List.length_nil] <;> omega)); conv => whnf)
        | (refine brK_false ?_ ?_; (focus (simp only [List.length_nil, fx, List.length_cons, List.length_nil] <;> omega)); conv => whnf)
        | ((refine brK_of (fun h => ?_) (fun h => ?_)) <;> (have h2 := h; (try simp only [List.length_nil, fx, List.length_cons, List.length_nil] at h2); conv => whnf))
        | (refine reqK_of ?_ ?_; (focus (first | decide | omega | assumption | (simp only [List.length_nil, fx, List.length_cons, List.length_nil] <;> omega) | (simp [keyNew, sameKey, kEq] <;> omega))); conv => whnf)
        | (refine reqK_of ?_ ?_; rotate_left; (conv => whnf); rotate_left)
        | (refine nth_twoB ?_ ?_ ?_; (focus (first | omega | (simp only [List.length_nil, fx, List.length_cons, List.length_nil] <;> omega))); (focus (first | omega | (simp only [List.length_nil, fx, List.length_cons, List.length_nil] <;> omega))); conv => whnf)
        | (refine nth_twoA ?_ ?_ ?_; (focus (first | omega | (simp only [List.length_nil, fx, List.length_cons, List.length_nil] <;> omega))); (focus (first | omega | (simp only [List.length_nil, fx, List.length_cons, List.length_nil] <;> omega))); conv => whnf)
        | (refine nth_us ?_ ?_ ?_; (focus (first | omega | (simp only [List.length_nil, fx, List.length_cons, List.length_nil] <;> omega))); (focus (first | omega | (simp only [List.length_nil, fx, List.length_cons, List.length_nil] <;> omega))); conv => whnf)
        | (refine nth_is ?_ ?_ ?_; (focus (first | omega | (simp only [List.length_nil, fx, List.length_cons, List.length_nil] <;> omega))); (focus (first | omega | (simp only [List.length_nil, fx, List.length_cons, List.length_nil] <;> omega))); conv => whnf)
        | (refine nth_bs ?_ ?_ ?_; (focus (first | omega | (simp only [List.length_nil, fx, List.length_cons, List.length_nil] <;> omega))); (focus (first | omega | (simp only [List.length_nil, fx, List.length_cons, List.length_nil] <;> omega))); conv => whnf))
      all_goals first
        | exact hb1
        | (refine loopC (hD (1 + 1) (by omega) (by omega)) ?_
           rw [hw1, show cat2 l r (1 + 1) = l ++ r from rfl, ← is_app]; rfl)
        | skip
      all_goals trace_state
    · conv => whnf
      repeat' (first
        | (refine brK_true rfl ?_; conv => whnf)
        | (refine brK_false rfl ?_; conv => whnf)
        | (refine brK_true (by assumption) ?_; conv => whnf)
        | (refine brK_false (by assumption) ?_; conv => whnf)
        | (refine brK_true ?_ ?_; (focus (simp only [List.length_nil, fx, List.length_cons, List.length_nil] <;> omega)); conv => whnf)
        | (refine brK_false ?_ ?_; (focus (simp only [List.length_nil, fx, List.length_cons, List.length_nil] <;> omega)); conv => whnf)
        | ((refine brK_of (fun h => ?_) (fun h => ?_)) <;> (have h2 := h; (try simp only [List.length_nil, fx, List.length_cons, List.length_nil] at h2); conv => whnf))
        | (refine reqK_of ?_ ?_; (focus (first | decide | omega | assumption | (simp only [List.length_nil, fx, List.length_cons, List.length_nil] <;> omega) | (simp [keyNew, sameKey, kEq] <;> omega))); conv => whnf)
        | (refine reqK_of ?_ ?_; rotate_left; (conv => whnf); rotate_left)
        | (refine nth_twoB ?_ ?_ ?_; (focus (first | omega | (simp only [List.length_nil, fx, List.length_cons, List.length_nil] <;> omega))); (focus (first | omega | (simp only [List.length_nil, fx, List.length_cons, List.length_nil] <;> omega))); conv => whnf)
        | (refine nth_twoA ?_ ?_ ?_; (focus (first | omega | (simp only [List.length_nil, fx, List.length_cons, List.length_nil] <;> omega))); (focus (first | omega | (simp only [List.length_nil, fx, List.length_cons, List.length_nil] <;> omega))); conv => whnf)
        | (refine nth_us ?_ ?_ ?_; (focus (first | omega | (simp only [List.length_nil, fx, List.length_cons, List.length_nil] <;> omega))); (focus (first | omega | (simp only [List.length_nil, fx, List.length_cons, List.length_nil] <;> omega))); conv => whnf)
        | (refine nth_is ?_ ?_ ?_; (focus (first | omega | (simp only [List.length_nil, fx, List.length_cons, List.length_nil] <;> omega))); (focus (first | omega | (simp only [List.length_nil, fx, List.length_cons, List.length_nil] <;> omega))); conv => whnf)
        | (refine nth_bs ?_ ?_ ?_; (focus (first | omega | (simp only [List.length_nil, fx, List.length_cons, List.length_nil] <;> omega))); (focus (first | omega | (simp only [List.length_nil, fx, List.length_cons, List.length_nil] <;> omega))); conv => whnf))
      rw [subL_00, show cat2 l r 2 = l ++ r from rfl, ← is_app]
open Classical in
noncomputable def c53 : List T → Ans
  | [.list 1 [.list 1 xs, .list 1 ys]] => .req ((IsI xs ∧ IsI ys) ∧ (xs.length + ys.length) * 8 ≤ maxBytes) (.list 1 (xs ++ ys))
  | _ => .no
theorem got53 {vs : List T} {x : T} (h : Got (c53 vs) x) : FnOk Tryd.prog tgl 53 vs x := by
  unfold c53 at h
  split at h
  · obtain ⟨hq, e⟩ := got_req h; rw [e]; exact ok53 _ _ hq
  · exact (got_no h).elim
theorem nogl53 (vs : List T) (p : Prop) (d : Decidable p) (sz : Nat) (xs : List T) (h : c53 vs = @Ans.gl p d sz xs) : False := by
  unfold c53 at h
  split at h <;> cases h
theorem pk53 (vs : List T) (p : Prop) (d : Decidable p) (x : T) (h : c53 vs = @Ans.pk p d x) (hp : p) : FnOk Tryd.prog tgl 53 vs x := by
  unfold c53 at h
  split at h
  · cases h
  · cases h
end Go.Nx
end
