/-
  A part of the machine, and of what is walked.
-/
import Derived.Test.YtdfjedkpclebgaaDoorP16
import Derived.Shelf.Strings.Builder1
import Derived.Shelf.Strings.Builder2
import Derived.Shelf.Strings.OnBuilder
import Derived.Shelf.Small.Bits
import Derived.Shelf.Utf8.RuneCount
import Derived.Shelf.Strconv.Atoi
import Derived.Shelf.Strconv.Itoa0
import Derived.Shelf.Strconv.Itoa1
import Derived.Shelf.LaysM
import Derived.Shelf.Strconv.Itoa2
import Derived.Shelf.Strconv.Itoa3
import Derived.Shelf.Strconv.AtoiErrFast
import Derived.Shelf.Strconv.ParseIntEmpty
import Derived.Shelf.Strconv.AtoiFail
import Derived.Shelf.Strconv.Clone
import Derived.Shelf.Strconv.SyntaxError
import Derived.Shelf.LaysC
import Derived.Shelf.Strconv.ToError
import Derived.Shelf.Strconv.AtoiErr
import Derived.Shelf.Strconv.Lower
import Derived.Shelf.Strconv.ParseUint10
import Derived.Shelf.Strconv.ParseUint10Empty
import Derived.Shelf.Strconv.ParseUint10Any
import Derived.Shelf.Strconv.ParseInt10
import Derived.Shelf.Strconv.AtoiLong
import Derived.Shelf.Strconv.AtoiInnerAll
import Derived.Shelf.Strconv.RangeError
import Derived.Shelf.Strconv.ToErrorRange
import Derived.Shelf.Strconv.AtoiAll
import Derived.Shelf.Strings.Search1
import Derived.Shelf.Strings.Search2
import Derived.Shelf.Strings.Search3
import Derived.Shelf.Strings.Count
import Derived.Shelf.Strings.Shaped
import Derived.Shelf.Strings.Split
import Derived.Shelf.Strings.SplitShaped
import Derived.Shelf.Unicode.Decode
import Derived.Shelf.Strings.RuneCount
import Derived.Shelf.Strings.Explode
import Derived.Shelf.Bits.Mul64
import Derived.Shelf.Unicode.DecodeSlow
import Derived.Shelf.Unicode.DecodeAny
import Derived.Ground.Names2Prog
import Derived.Shelf.Slices.Clone
import Derived.Shelf.Slices.SearchI
import Derived.Ground.SlgnProg
import Derived.Shelf.SlicesE.Clone
import Derived.Test.YtdfjedkpclebgaaDoorRows
section
namespace Go.Proofs
open Go.Shelf
def Tryd.lays212_ren : Go.Shelf.Ren := ⟨fun | 212 => 91 | 263 => 102 | 264 => 103 | n => n, fun | 46 => 125 | 51 => 136 | 146 => 137 | 53 => 25 | 148 => 139 | n => n, fun | n => n⟩
theorem Tryd.lays212 : Go.Proofs.Lays.n212 Tryd.prog Tryd.lays212_ren := {
  mixed := by kernel_rfl
  f212 := Tryd.func91.trans (congrArg some (by kernel_rfl))
  f263 := Tryd.func102.trans (congrArg some (by kernel_rfl))
  f264 := Tryd.func103.trans (congrArg some (by kernel_rfl))
  t46 := Tryd.underlying125
  a46 := Tryd.isAgg125
  z46 := Tryd.sizeOf125
  v46 := Tryd.zeroValue125
  t51 := Tryd.underlying136
  a51 := Tryd.isAgg136
  z51 := Tryd.sizeOf136
  v51 := Tryd.zeroValue136
  t53 := Tryd.underlying25
  a53 := Tryd.isAgg25
  z53 := Tryd.sizeOf25
  v53 := Tryd.zeroValue25
  t146 := Tryd.underlying137
  a146 := Tryd.isAgg137
  z146 := Tryd.sizeOf137
  v146 := Tryd.zeroValue137
  t148 := Tryd.underlying139
  a148 := Tryd.isAgg139
  z148 := Tryd.sizeOf139
  v148 := Tryd.zeroValue139 }
open Go.RowKit Go.Lib in
theorem Tryd.bits_Mul (x y : Nat) (hx : x < 18446744073709551616) (hy : y < 18446744073709551616) (w : World) :
    Calls Tryd.prog 91 #[.int .u64 x, .int .u64 y] w fun e w' => e = .returned (.tuple #[.int .u64 ((x * y / 18446744073709551616 : Nat) : Int), .int .u64 ((x * y % 18446744073709551616 : Nat) : Int)]) ∧ w' = w := Any.bits_Mul Tryd.lays212 x y hx hy w
end Go.Proofs
end
section
set_option linter.unusedVariables false
set_option linter.unusedSimpArgs false
set_option maxRecDepth 20000
set_option maxHeartbeats 4000000
namespace Go.Nx
open Go.RowKit Go.Proofs

theorem ok91 (x y : Int) (hq : R64 x ∧ R64 y) : FnOk Tryd.prog tgl 91 [.int .u64 x, .int .u64 y] (.tup [.int .u64 (x * y / 18446744073709551616), .int .u64 (x * y % 18446744073709551616)]) := by
  obtain ⟨hx, hy⟩ := hq
  unfold R64 at hx hy
  obtain ⟨a, rfl⟩ := Int.eq_ofNat_of_zero_le hx.1
  obtain ⟨b, rfl⟩ := Int.eq_ofNat_of_zero_le hy.1
  refine fnOk_of (enter_low Tryd.func91 low91) fun S w args hsz hrel => ?_
  have e1 := RelT.int_of (hrel 0 _ (args[0]'(by simp at hsz; omega)) rfl (by simp))
  have e2 := RelT.int_of (hrel 1 _ (args[1]'(by simp at hsz; omega)) rfl (by simp))
  have e : args = #[.int .u64 a, .int .u64 b] := by
    apply Array.ext
    · simpa using hsz
    · intro i h1 h2
      simp at h2
      rcases (show i = 0 ∨ i = 1 by omega) with rfl | rfl
      · simpa using e1
      · simpa using e2
  rw [e]
  refine (Tryd.bits_Mul a b (by omega) (by omega) w).mono ?_
  rintro e w' ⟨rfl, rfl⟩
  refine ⟨_, rfl, rfl, .tup _ _ rfl fun i c v hc hv => ?_⟩
  match i with
  | 0 => simp at hc hv; subst hc hv; simpa using RelT.int (S := S) (w := w') .u64 _
  | 1 => simp at hc hv; subst hc hv; simpa using RelT.int (S := S) (w := w') .u64 _
  | i + 2 => simp at hc
open Classical in
noncomputable def c91 : List T → Ans
  | [.int .u64 x, .int .u64 y] => .req (R64 x ∧ R64 y) (.tup [.int .u64 (x * y / 18446744073709551616), .int .u64 (x * y % 18446744073709551616)])
  | _ => .no
theorem got91 {vs : List T} {x : T} (h : Got (c91 vs) x) : FnOk Tryd.prog tgl 91 vs x := by
  unfold c91 at h
  split at h
  · obtain ⟨hq, e⟩ := got_req h; rw [e]; exact ok91 _ _ hq
  · exact (got_no h).elim
theorem nogl91 (vs : List T) (p : Prop) (d : Decidable p) (sz : Nat) (xs : List T) (h : c91 vs = @Ans.gl p d sz xs) : False := by
  unfold c91 at h
  split at h <;> cases h
theorem pk91 (vs : List T) (p : Prop) (d : Decidable p) (x : T) (h : c91 vs = @Ans.pk p d x) (hp : p) : FnOk Tryd.prog tgl 91 vs x := by
  unfold c91 at h
  split at h
  · cases h
  · cases h
noncomputable def lB5 : List (Nat × (List T → Ans)) := (53, c53) :: (91, c91) :: lB4
noncomputable def iB5 : List (Nat × Pt) := iB4
noncomputable abbrev B5 : Env := En tgl lB5 iB5
theorem env_B5 : EnvOk Tryd.prog B5 := (env_fn (env_fn env_B4 (fun _ _ => got91) (fun vs p d sz xs h _ => (nogl91 vs p d sz xs h).elim) pk91) (fun _ _ => got53) (fun vs p d sz xs h _ => (nogl53 vs p d sz xs h).elim) pk53)
theorem ok16 (xs ys : List T) (hq : (IsI xs ∧ IsI ys) ∧ (xs.length + ys.length) * 8 ≤ maxBytes) : FnOk Tryd.prog tgl 16 [.list 1 xs, .list 1 ys] (.list 1 (is (srt (nums xs ++ nums ys)))) := by
  refine fn_ok (Γ := B5) env_B5 Tryd.func16 low16 ?_
  have hq' := hq
  obtain ⟨⟨⟨l, rfl, hl⟩, ⟨r, rfl, hr⟩⟩, hs⟩ := hq
  have hq2 : IsI (is l ++ is r) ∧ SzB (is l ++ is r) := by
    rw [is_app]
    refine ⟨isI_is fun n hn => ?_, ?_⟩
    · rcases List.mem_append.1 hn with h | h
      · exact hl n h
      · exact hr n h
    · unfold SzB; rw [is_len, List.length_append]; rw [is_len, is_len] at hs; exact hs
  conv => whnf
  repeat' (first
    | (refine brK_true rfl ?_; conv => whnf)
    | (refine brK_false rfl ?_; conv => whnf)
    | (refine brK_true (by assumption) ?_; conv => whnf)
    | (refine brK_false (by assumption) ?_; conv => whnf)
    | (refine brK_true ?_ ?_; (focus (simp only [List.length_nil, fx] <;> omega)); conv => whnf)
    | (refine brK_false ?_ ?_; (focus (simp only [List.length_nil, fx] <;> omega)); conv => whnf)
    | ((refine brK_of (fun h => ?_) (fun h => ?_)) <;> (have h2 := h; (try simp only [List.length_nil, fx] at h2); conv => whnf))
    | (refine reqK_of ?_ ?_; (focus (first | decide | omega | assumption | (simp only [List.length_nil, fx] <;> omega) | (simp [keyNew, sameKey, kEq] <;> omega))); conv => whnf)
    | (refine reqK_of ?_ ?_; rotate_left; (conv => whnf); rotate_left)
    | (refine nth_us ?_ ?_ ?_; (focus (first | omega | (simp only [List.length_nil, fx] <;> omega))); (focus (first | omega | (simp only [List.length_nil, fx] <;> omega))); conv => whnf)
    | (refine nth_is ?_ ?_ ?_; (focus (first | omega | (simp only [List.length_nil, fx] <;> omega))); (focus (first | omega | (simp only [List.length_nil, fx] <;> omega))); conv => whnf)
    | (refine nth_bs ?_ ?_ ?_; (focus (first | omega | (simp only [List.length_nil, fx] <;> omega))); (focus (first | omega | (simp only [List.length_nil, fx] <;> omega))); conv => whnf))
  rw [is_app, nums_is, nums_is, nums_is]
open Classical in
noncomputable def c16 : List T → Ans
  | [.list 1 xs, .list 1 ys] => .req ((IsI xs ∧ IsI ys) ∧ (xs.length + ys.length) * 8 ≤ maxBytes) (.list 1 (is (srt (nums xs ++ nums ys))))
  | _ => .no
theorem got16 {vs : List T} {x : T} (h : Got (c16 vs) x) : FnOk Tryd.prog tgl 16 vs x := by
  unfold c16 at h
  split at h
  · obtain ⟨hq, e⟩ := got_req h; rw [e]; exact ok16 _ _ hq
  · exact (got_no h).elim
theorem nogl16 (vs : List T) (p : Prop) (d : Decidable p) (sz : Nat) (xs : List T) (h : c16 vs = @Ans.gl p d sz xs) : False := by
  unfold c16 at h
  split at h <;> cases h
theorem pk16 (vs : List T) (p : Prop) (d : Decidable p) (x : T) (h : c16 vs = @Ans.pk p d x) (hp : p) : FnOk Tryd.prog tgl 16 vs x := by
  unfold c16 at h
  split at h
  · cases h
  · cases h
def repN (o : Int) (n c : Nat) : List Int := List.replicate c o ++ List.replicate (n - c) 0
theorem repN_len (o : Int) {n c : Nat} (h : c ≤ n) : (repN o n c).length = n := by simp [repN]; omega
theorem minI_nat (a b : Nat) : minI (a : Int) (b : Int) = ((min a b : Nat) : Int) := by
  rw [minI_def, Nat.min_def]; split <;> split <;> omega
theorem rep_first (o : Int) (n : Nat) : putL (List.replicate n (T.int .i64 0)) 0 (List.take n [T.int .i64 o]) = is (repN o n (min 1 n)) := by
  cases n with
  | zero => rfl
  | succ n =>
    have : min 1 (n + 1) = 1 := by omega
    rw [this]
    simp [putL, repN, is, List.replicate_succ]
theorem rep_step (o : Int) {n c : Nat} (h : c ≤ n) : putL (is (repN o n c)) c (List.take (n - c) (List.take c (is (repN o n c)))) = is (repN o n (c + min c (n - c))) := by
  have e1 : List.take c (repN o n c) = List.replicate c o := by
    unfold repN
    rw [List.take_append_of_le_length (by simp)]
    simp
  have e2 : is (repN o n c) = (repN o n c).map (T.int .i64) := rfl
  unfold putL
  rw [e2, ← List.map_take, ← List.map_take, ← List.map_drop, e1, List.take_replicate, ← List.map_append, ← List.map_append]
  congr 1
  rw [List.length_map, List.length_replicate]
  have e3 : List.drop (c + min (n - c) c) (repN o n c) = List.replicate (n - c - min (n - c) c) 0 := by
    unfold repN
    rw [List.drop_append]
    simp
  rw [e3]
  unfold repN
  rw [← List.append_assoc, List.replicate_append_replicate]
  congr 2 <;> omega
theorem ok77 (o n : Int) (hq : 0 ≤ n ∧ n ≤ 1000) : FnOk Tryd.prog tgl 77 [.list 1 [.int .i64 o], .int .i64 n] (.list 1 (is (List.replicate n.toNat o))) := by
  refine fn_ok (Γ := B5) env_B5 Tryd.func77 low77 ?_
  obtain ⟨h0, h1⟩ := hq
  have hu : IntKind.u64.wrap n = n := wrap_u64 (by unfold R64; omega)
  have hi : IntKind.i64.wrap n = n := wrap_i64 ⟨by omega, by omega⟩
  have hu1 : IntKind.u64.wrap ((([T.int .i64 o] : List T).length : Nat) : Int) = 1 := by
    show IntKind.u64.wrap 1 = 1
    exact wrap_u64 (by unfold R64; omega)
  have hd : (1 * n) / 18446744073709551616 = 0 := by omega
  have hm : (1 * n) % 18446744073709551616 = n := by omega
  have hq1 : R64 (IntKind.u64.wrap ((([T.int .i64 o] : List T).length : Nat) : Int)) ∧ R64 (IntKind.u64.wrap n) := by rw [hu1, hu]; unfold R64; omega
  have hlo : IntKind.u64.wrap ((([T.int .i64 o] : List T).length : Nat) : Int) * IntKind.u64.wrap n % 18446744073709551616 = n := by rw [hu1, hu, hm]
  have hhi : IntKind.u64.wrap ((([T.int .i64 o] : List T).length : Nat) : Int) * IntKind.u64.wrap n / 18446744073709551616 = 0 := by rw [hu1, hu, hd]
  conv => whnf
  repeat' (first
    | (refine brK_true rfl ?_; conv => whnf)
    | (refine brK_false rfl ?_; conv => whnf)
    | (refine brK_true (by assumption) ?_; conv => whnf)
    | (refine brK_false (by assumption) ?_; conv => whnf)
    | (refine brK_true ?_ ?_; (focus (simp only [List.length_nil, fx, hlo, hhi, hi] <;> omega)); conv => whnf)
    | (refine brK_false ?_ ?_; (focus (simp only [List.length_nil, fx, hlo, hhi, hi] <;> omega)); conv => whnf)
    | ((refine brK_of (fun h => ?_) (fun h => ?_)) <;> (have h2 := h; (try simp only [List.length_nil, fx, hlo, hhi, hi] at h2); conv => whnf))
    | (refine reqK_of ?_ ?_; (focus (first | decide | omega | assumption | (simp only [List.length_nil, fx, hlo, hhi, hi] <;> omega) | (simp [keyNew, sameKey, kEq] <;> omega))); conv => whnf)
    | (refine reqK_of ?_ ?_; rotate_left; (conv => whnf); rotate_left)
    | (refine nth_us ?_ ?_ ?_; (focus (first | omega | (simp only [List.length_nil, fx, hlo, hhi, hi] <;> omega))); (focus (first | omega | (simp only [List.length_nil, fx, hlo, hhi, hi] <;> omega))); conv => whnf)
    | (refine nth_is ?_ ?_ ?_; (focus (first | omega | (simp only [List.length_nil, fx, hlo, hhi, hi] <;> omega))); (focus (first | omega | (simp only [List.length_nil, fx, hlo, hhi, hi] <;> omega))); conv => whnf)
    | (refine nth_bs ?_ ?_ ?_; (focus (first | omega | (simp only [List.length_nil, fx, hlo, hhi, hi] <;> omega))); (focus (first | omega | (simp only [List.length_nil, fx, hlo, hhi, hi] <;> omega))); conv => whnf))
  · rw [hlo, hi]; unfold maxBytes; omega
  obtain ⟨N, hN⟩ : ∃ N : Nat, N = n.toNat := ⟨_, rfl⟩
  have hnN : n = (N : Int) := by omega
  have hLz : lenL (List.replicate N (T.int .i64 0)) 0 none = (N : Int) := by show ((List.replicate N (T.int .i64 0)).length : Int) = _; simp
  have hL1 : minI ((([T.int .i64 o] : List T).length : Nat) : Int) (N : Int) = ((min 1 N : Nat) : Int) := minI_nat 1 N
  rw [hlo, hi, ← hN, hLz, hL1, Int.toNat_natCast, rep_first]
  refine loopFn [] (fun s => [.kill 34, .kill 35, .kill 36, .kill 37, .kill 38, .kill 39, .kill 40, .kill 41, .kill 42, .kill 43, .kill 44, .kill 45, .kill 46]) (fun c : Nat => [(8, .t (.int .i64 (c : Int)))]) (fun c => [(94, .lst 1 (is (repN o N c)) 0)]) (fun c => c ≤ N ∧ (c = 0 → N = 0)) (fun c => N - c) (min 1 N) ⟨by omega, by omega⟩ ?_
  conv => whnf
  refine ⟨⟨rfl, rfl⟩, fun c hc C hC => ?_⟩
  obtain ⟨hc1, hc2⟩ := hc
  have hrl := repN_len o hc1
  have hoff : Nat.add 0 (c : Int).toNat = c := by simp
  have hlen : lenL (is (repN o N c)) (Nat.add 0 (c : Int).toNat) none = ((N - c : Nat) : Int) := by
    rw [hoff, lenL_eq]; simp only; rw [is_len, hrl]; omega
  have hsub : subL (is (repN o N c)) 0 (some (c : Int).toNat) = List.take c (is (repN o N c)) := by simp [subL]
  have htl : (List.take c (is (repN o N c))).length = c := by rw [List.length_take, is_len, hrl]; omega
  have hA : putL (is (repN o N c)) (Nat.add 0 (c : Int).toNat) (List.take (lenL (is (repN o N c)) (Nat.add 0 (c : Int).toNat) none).toNat (subL (is (repN o N c)) 0 (some (c : Int).toNat))) = is (repN o N (c + min c (N - c))) := by
    rw [hlen, hsub, hoff, Int.toNat_natCast]; exact rep_step o hc1
  have hB : IntKind.i64.wrap ((c : Int) + minI ((subL (is (repN o N c)) 0 (some (c : Int).toNat)).length : Nat) (lenL (is (repN o N c)) (Nat.add 0 (c : Int).toNat) none)) = ((c + min c (N - c) : Nat) : Int) := by
    rw [hlen, hsub, htl, minI_nat, ← Int.natCast_add]; exact wrap_i64 ⟨by omega, by omega⟩
  conv => whnf
  repeat' (first
    | (refine brK_true rfl ?_; conv => whnf)
    | (refine brK_false rfl ?_; conv => whnf)
    | (refine brK_true (by assumption) ?_; conv => whnf)
    | (refine brK_false (by assumption) ?_; conv => whnf)
    | (refine brK_true ?_ ?_; (focus (simp only [List.length_nil, fx, hrl, hlen, hsub, hoff] <;> omega)); conv => whnf)
    | (refine brK_false ?_ ?_; (focus (simp only [List.length_nil, fx, hrl, hlen, hsub, hoff] <;> omega)); conv => whnf)
    | ((refine brK_of (fun h => ?_) (fun h => ?_)) <;> (have h2 := h; (try simp only [List.length_nil, fx, hrl, hlen, hsub, hoff] at h2); conv => whnf))
    | (refine reqK_of ?_ ?_; (focus (first | decide | omega | assumption | (simp only [List.length_nil, fx, hrl, hlen, hsub, hoff] <;> omega) | (simp [keyNew, sameKey, kEq] <;> omega))); conv => whnf)
    | (refine reqK_of ?_ ?_; rotate_left; (conv => whnf); rotate_left)
    | (refine nth_us ?_ ?_ ?_; (focus (first | omega | (simp only [List.length_nil, fx, hrl, hlen, hsub, hoff] <;> omega))); (focus (first | omega | (simp only [List.length_nil, fx, hrl, hlen, hsub, hoff] <;> omega))); conv => whnf)
    | (refine nth_is ?_ ?_ ?_; (focus (first | omega | (simp only [List.length_nil, fx, hrl, hlen, hsub, hoff] <;> omega))); (focus (first | omega | (simp only [List.length_nil, fx, hrl, hlen, hsub, hoff] <;> omega))); conv => whnf)
    | (refine nth_bs ?_ ?_ ?_; (focus (first | omega | (simp only [List.length_nil, fx, hrl, hlen, hsub, hoff] <;> omega))); (focus (first | omega | (simp only [List.length_nil, fx, hrl, hlen, hsub, hoff] <;> omega))); conv => whnf))
  · refine loopC (hC (c + min c (N - c)) (by omega) (by omega)) ?_
    rw [hB, hA]
    rfl
  · have : c = N := by omega
    subst this
    rw [subL_00]
    simp [repN]
open Classical in
noncomputable def c77 : List T → Ans
  | [.list 1 [.int .i64 o], .int .i64 n] => .req (0 ≤ n ∧ n ≤ 1000) (.list 1 (is (List.replicate n.toNat o)))
  | _ => .no
theorem got77 {vs : List T} {x : T} (h : Got (c77 vs) x) : FnOk Tryd.prog tgl 77 vs x := by
  unfold c77 at h
  split at h
  · obtain ⟨hq, e⟩ := got_req h; rw [e]; exact ok77 _ _ hq
  · exact (got_no h).elim
theorem nogl77 (vs : List T) (p : Prop) (d : Decidable p) (sz : Nat) (xs : List T) (h : c77 vs = @Ans.gl p d sz xs) : False := by
  unfold c77 at h
  split at h <;> cases h
theorem pk77 (vs : List T) (p : Prop) (d : Decidable p) (x : T) (h : c77 vs = @Ans.pk p d x) (hp : p) : FnOk Tryd.prog tgl 77 vs x := by
  unfold c77 at h
  split at h
  · cases h
  · cases h
end Go.Nx
end
section
set_option linter.unusedVariables false
set_option linter.unusedSimpArgs false
set_option maxRecDepth 20000
set_option maxHeartbeats 4000000
namespace Go.Nx
open Go.RowKit Go.Proofs

def stD (l : List Int) (o : Int) (m : Nat) : Nat → List Int × Nat
  | 0 => ([], m)
  | k + 1 => if at0 l k = o ∧ 0 < (stD l o m k).2 then ((stD l o m k).1, (stD l o m k).2 - 1) else ((stD l o m k).1 ++ [at0 l k], (stD l o m k).2)
theorem stD_del (l : List Int) (o : Int) (m : Nat) : ∀ k, k ≤ l.length → (stD l o m k).1 ++ delN o (stD l o m k).2 (l.drop k) = delN o m l
  | 0, _ => by simp [stD]
  | k + 1, h => by
    have ih := stD_del l o m k (by omega)
    have e : l.drop k = at0 l k :: l.drop (k + 1) := by
      rw [List.drop_eq_getElem_cons (by omega)]; simp [at0, show k < l.length by omega]
    rw [e] at ih
    rw [← ih, stD]
    generalize (stD l o m k).2 = r
    cases r with
    | zero => simp [delN, delN_zero]
    | succ r =>
      by_cases hx : at0 l k = o
      · rw [if_pos ⟨hx, by omega⟩]; simp [delN, hx]
      · rw [if_neg (by simp [hx])]; simp [delN, hx]
theorem stD_end (l : List Int) (o : Int) (m : Nat) : (stD l o m l.length).1 = delN o m l := by
  have := stD_del l o m l.length (Nat.le_refl _)
  rw [List.drop_length] at this
  have e : ∀ r, delN o r ([] : List Int) = [] := fun r => by cases r <;> rfl
  rw [e, List.append_nil] at this
  exact this
theorem stD_len (l : List Int) (o : Int) (m : Nat) : ∀ k, (stD l o m k).1.length + m = k + (stD l o m k).2 ∧ (stD l o m k).2 ≤ m
  | 0 => by simp [stD]
  | k + 1 => by
    have ih := stD_len l o m k
    rw [stD]
    split
    · simp only; omega
    · simp only [List.length_append, List.length_cons, List.length_nil]; omega
theorem stD_no (l : List Int) (o : Int) (m : Nat) : ∀ k, k ≤ l.length → (∀ j, j < k → at0 l j ≠ o) → stD l o m k = (l.take k, m)
  | 0, _, _ => by simp [stD]
  | k + 1, h, hn => by
    rw [stD, stD_no l o m k (by omega) fun j hj => hn j (by omega), if_neg (by simp [hn k (by omega)]), List.take_add_one]
    simp [at0, show k < l.length by omega]
noncomputable def lB6 : List (Nat × (List T → Ans)) := (77, c77) :: (16, c16) :: lB5
noncomputable def iB6 : List (Nat × Pt) := (76, inl B0 m76) :: (78, inl B0 m78) :: iB5
noncomputable abbrev B6 : Env := En tgl lB6 iB6
theorem env_B6 : EnvOk Tryd.prog B6 := (env_fn (env_fn (env_in (env_in env_B5 env_B0 Tryd.func78 low78) env_B0 Tryd.func76 low76) (fun _ _ => got16) (fun vs p d sz xs h _ => (nogl16 vs p d sz xs h).elim) pk16) (fun _ _ => got77) (fun vs p d sz xs h _ => (nogl77 vs p d sz xs h).elim) pk77)
def idxOwn (l : List Int) (o n : Int) : Own := [(85063, .lst 1 (is l) 0), (69, .cells [.t (.int .i64 n)]), (68, .cells [.t (.int .i64 o)])]
def idxSpec (l : List Int) (o n z : Int) (own' : Own) : Prop :=
  (∃ k : Nat, k < l.length ∧ z = (k : Int) ∧ at0 l k = o ∧ (∀ j : Nat, j < k → at0 l j ≠ o) ∧ own' = idxOwn l o (n + 1)) ∨ (z = -1 ∧ (∀ j : Nat, j < l.length → at0 l j ≠ o) ∧ own' = idxOwn l o n)
theorem inl_idx {base : Nat} {l : List Int} {o n : Int} (hlen : l.length ≤ 17592186044416) (hn : n < 0 ∧ I64 n) {R : V → Own → Prop} (hR : ∀ z own', idxSpec l o n z own' → R (.t (.int .i64 z)) own') :
    inl B6 m90 base [.sl 85063 0 none, .fn (.func 78) [] [.ptr 68 0, .ptr 69 0]] (idxOwn l o n) R := by
  obtain ⟨hn0, hn64⟩ := hn
  unfold I64 at hn64
  unfold inl idxOwn
  conv => whnf
  repeat' (first
    | (refine brK_true rfl ?_; conv => whnf)
    | (refine brK_false rfl ?_; conv => whnf)
    | (refine brK_true (by assumption) ?_; conv => whnf)
    | (refine brK_false (by assumption) ?_; conv => whnf)
    | (refine brK_true ?_ ?_; (focus (simp only [List.length_nil, fx] <;> omega)); conv => whnf)
    | (refine brK_false ?_ ?_; (focus (simp only [List.length_nil, fx] <;> omega)); conv => whnf)
    | ((refine brK_of (fun h => ?_) (fun h => ?_)) <;> (have h2 := h; (try simp only [List.length_nil, fx] at h2); conv => whnf))
    | (refine reqK_of ?_ ?_; (focus (first | decide | omega | assumption | (simp only [List.length_nil, fx] <;> omega) | (simp [keyNew, sameKey, kEq] <;> omega))); conv => whnf)
    | (refine reqK_of ?_ ?_; rotate_left; (conv => whnf); rotate_left)
    | (refine nth_us ?_ ?_ ?_; (focus (first | omega | (simp only [List.length_nil, fx] <;> omega))); (focus (first | omega | (simp only [List.length_nil, fx] <;> omega))); conv => whnf)
    | (refine nth_is ?_ ?_ ?_; (focus (first | omega | (simp only [List.length_nil, fx] <;> omega))); (focus (first | omega | (simp only [List.length_nil, fx] <;> omega))); conv => whnf)
    | (refine nth_bs ?_ ?_ ?_; (focus (first | omega | (simp only [List.length_nil, fx] <;> omega))); (focus (first | omega | (simp only [List.length_nil, fx] <;> omega))); conv => whnf))
  refine loopFn [] (fun s => [.kill 5, .kill 9, .kill 10, .kill 11, .kill 12, .kill 13, .kill 14, .kill 15, .kill 16, .kill 17, .kill 18]) (fun k : Nat => [(8, .t (.int .i64 (k : Int)))]) (fun _ => idxOwn l o n) (fun k => k ≤ l.length ∧ ∀ j : Nat, j < k → at0 l j ≠ o) (fun k => l.length - k) 0 ⟨Nat.zero_le _, fun j h => by omega⟩ ?_
  conv => whnf
  refine ⟨⟨rfl, rfl⟩, fun k hk C hC => ?_⟩
  obtain ⟨hk1, hk2⟩ := hk
  have hkn : Nat.add 0 (k : Int).toNat = k := by simp
  have hw : IntKind.i64.wrap ((k : Int) + 1) = (k : Int) + 1 := wrap_i64 ⟨by omega, by omega⟩
  have hwn : IntKind.i64.wrap (n + 1) = n + 1 := wrap_i64 ⟨by omega, by omega⟩
  conv => whnf
  repeat' (first
    | (refine brK_true rfl ?_; conv => whnf)
    | (refine brK_false rfl ?_; conv => whnf)
    | (refine brK_true (by assumption) ?_; conv => whnf)
    | (refine brK_false (by assumption) ?_; conv => whnf)
    | (refine brK_true ?_ ?_; (focus (simp only [List.length_nil, fx, hkn] <;> omega)); conv => whnf)
    | (refine brK_false ?_ ?_; (focus (simp only [List.length_nil, fx, hkn] <;> omega)); conv => whnf)
    | ((refine brK_of (fun h => ?_) (fun h => ?_)) <;> (have h2 := h; (try simp only [List.length_nil, fx, hkn] at h2); conv => whnf))
    | (refine reqK_of ?_ ?_; (focus (first | decide | omega | assumption | (simp only [List.length_nil, fx, hkn] <;> omega) | (simp [keyNew, sameKey, kEq] <;> omega))); conv => whnf)
    | (refine reqK_of ?_ ?_; rotate_left; (conv => whnf); rotate_left)
    | (refine nth_us ?_ ?_ ?_; (focus (first | omega | (simp only [List.length_nil, fx, hkn] <;> omega))); (focus (first | omega | (simp only [List.length_nil, fx, hkn] <;> omega))); conv => whnf)
    | (refine nth_is ?_ ?_ ?_; (focus (first | omega | (simp only [List.length_nil, fx, hkn] <;> omega))); (focus (first | omega | (simp only [List.length_nil, fx, hkn] <;> omega))); conv => whnf)
    | (refine nth_bs ?_ ?_ ?_; (focus (first | omega | (simp only [List.length_nil, fx, hkn] <;> omega))); (focus (first | omega | (simp only [List.length_nil, fx, hkn] <;> omega))); conv => whnf))
  · refine loopC (hC (k + 1) ⟨by omega, fun j hj => ?_⟩ (by omega)) ?_
    · rcases Nat.lt_succ_iff_lt_or_eq.1 hj with h | h
      · exact hk2 j h
      · subst h; assumption
    · rw [hw, Int.natCast_succ]; rfl
  · rw [hwn]
    exact hR _ _ (.inl ⟨k, by omega, rfl, by assumption, hk2, rfl⟩)
  · exact hR _ _ (.inr ⟨rfl, fun j hj => hk2 j (by omega), rfl⟩)
theorem inl_idx_nil {base : Nat} {o n : Int} {R : V → Own → Prop} (hR : ∀ z, z = -1 → R (.t (.int .i64 z)) [(69, .cells [.t (.int .i64 n)]), (68, .cells [.t (.int .i64 o)])]) :
    inl B6 m90 base [.t .nils, .fn (.func 78) [] [.ptr 68 0, .ptr 69 0]] [(69, .cells [.t (.int .i64 n)]), (68, .cells [.t (.int .i64 o)])] R := by
  unfold inl
  conv => whnf
  repeat' (first
    | (refine brK_true rfl ?_; conv => whnf)
    | (refine brK_false rfl ?_; conv => whnf)
    | (refine brK_true (by assumption) ?_; conv => whnf)
    | (refine brK_false (by assumption) ?_; conv => whnf)
    | (refine brK_true ?_ ?_; (focus (simp only [List.length_nil, fx] <;> omega)); conv => whnf)
    | (refine brK_false ?_ ?_; (focus (simp only [List.length_nil, fx] <;> omega)); conv => whnf)
    | ((refine brK_of (fun h => ?_) (fun h => ?_)) <;> (have h2 := h; (try simp only [List.length_nil, fx] at h2); conv => whnf))
    | (refine reqK_of ?_ ?_; (focus (first | decide | omega | assumption | (simp only [List.length_nil, fx] <;> omega) | (simp [keyNew, sameKey, kEq] <;> omega))); conv => whnf)
    | (refine reqK_of ?_ ?_; rotate_left; (conv => whnf); rotate_left)
    | (refine nth_us ?_ ?_ ?_; (focus (first | omega | (simp only [List.length_nil, fx] <;> omega))); (focus (first | omega | (simp only [List.length_nil, fx] <;> omega))); conv => whnf)
    | (refine nth_is ?_ ?_ ?_; (focus (first | omega | (simp only [List.length_nil, fx] <;> omega))); (focus (first | omega | (simp only [List.length_nil, fx] <;> omega))); conv => whnf)
    | (refine nth_bs ?_ ?_ ?_; (focus (first | omega | (simp only [List.length_nil, fx] <;> omega))); (focus (first | omega | (simp only [List.length_nil, fx] <;> omega))); conv => whnf))
  refine loopFn [] (fun s => [.kill 5, .kill 9, .kill 10, .kill 11, .kill 12, .kill 13, .kill 14, .kill 15, .kill 16, .kill 17, .kill 18]) (fun k : Int => [(8, .t (.int .i64 k))]) (fun _ => [(69, .cells [.t (.int .i64 n)]), (68, .cells [.t (.int .i64 o)])]) (fun k => k = 0) (fun k => 0) 0 rfl ?_
  conv => whnf
  refine ⟨⟨rfl, rfl⟩, fun k hk C hC => ?_⟩
  conv => whnf
  repeat' (first
    | (refine brK_true rfl ?_; conv => whnf)
    | (refine brK_false rfl ?_; conv => whnf)
    | (refine brK_true (by assumption) ?_; conv => whnf)
    | (refine brK_false (by assumption) ?_; conv => whnf)
    | (refine brK_true ?_ ?_; (focus (simp only [List.length_nil, fx] <;> omega)); conv => whnf)
    | (refine brK_false ?_ ?_; (focus (simp only [List.length_nil, fx] <;> omega)); conv => whnf)
    | ((refine brK_of (fun h => ?_) (fun h => ?_)) <;> (have h2 := h; (try simp only [List.length_nil, fx] at h2); conv => whnf))
    | (refine reqK_of ?_ ?_; (focus (first | decide | omega | assumption | (simp only [List.length_nil, fx] <;> omega) | (simp [keyNew, sameKey, kEq] <;> omega))); conv => whnf)
    | (refine reqK_of ?_ ?_; rotate_left; (conv => whnf); rotate_left)
    | (refine nth_us ?_ ?_ ?_; (focus (first | omega | (simp only [List.length_nil, fx] <;> omega))); (focus (first | omega | (simp only [List.length_nil, fx] <;> omega))); conv => whnf)
    | (refine nth_is ?_ ?_ ?_; (focus (first | omega | (simp only [List.length_nil, fx] <;> omega))); (focus (first | omega | (simp only [List.length_nil, fx] <;> omega))); conv => whnf)
    | (refine nth_bs ?_ ?_ ?_; (focus (first | omega | (simp only [List.length_nil, fx] <;> omega))); (focus (first | omega | (simp only [List.length_nil, fx] <;> omega))); conv => whnf))
  exact hR _ rfl
def ptIdx : Pt := fun _ args own R => (∃ o n, args = [.t .nils, .fn (.func 78) [] [.ptr 68 0, .ptr 69 0]] ∧ own = [(69, .cells [.t (.int .i64 n)]), (68, .cells [.t (.int .i64 o)])] ∧ ∀ z, z = -1 → R (.t (.int .i64 z)) own) ∨ ∃ l o n, args = [.sl 85063 0 none, .fn (.func 78) [] [.ptr 68 0, .ptr 69 0]] ∧ own = idxOwn l o n ∧ l.length ≤ 17592186044416 ∧ (n < 0 ∧ I64 n) ∧ ∀ z own', idxSpec l o n z own' → R (.t (.int .i64 z)) own'
theorem ptIdx_ok (base : Nat) (args : List V) (own : Own) (R : V → Own → Prop) (h : ptIdx base args own R) : FnV Tryd.prog tgl 90 args own R := by
  rcases h with ⟨o, n, rfl, rfl, h⟩ | ⟨l, o, n, rfl, rfl, h1, h2, h3⟩
  · exact inl_ok (base := base) env_B6 Tryd.func90 low90 (inl_idx_nil h)
  exact inl_ok (base := base) env_B6 Tryd.func90 low90 (inl_idx h1 h2 h3)
noncomputable def lB7 : List (Nat × (List T → Ans)) := lB6
noncomputable def iB7 : List (Nat × Pt) := (90, ptIdx) :: iB6
noncomputable abbrev B7 : Env := En tgl lB7 iB7
theorem env_B7 : EnvOk Tryd.prog B7 := env_ptB env_B6 ptIdx_ok
theorem delN_no (o : Int) : ∀ (m : Nat) (l : List Int), o ∉ l → delN o m l = l
  | m, [], _ => by cases m <;> rfl
  | 0, x :: l, _ => rfl
  | m + 1, x :: l, h => by
    have hx : x ≠ o := fun e => h (by simp [e])
    rw [delN, if_neg hx, delN_no o (m + 1) l fun hm => h (by simp [hm])]
theorem set_mid (K : List Int) (l : List Int) (v : Int) (h : K.length < l.length) : (is (K ++ l.drop K.length)).set K.length (T.int .i64 v) = is ((K ++ [v]) ++ l.drop (K ++ [v]).length) := by
  have e : l.drop K.length = l[K.length] :: l.drop (K.length + 1) := List.drop_eq_getElem_cons h
  rw [e]
  unfold is
  rw [List.map_append, List.set_append_right _ _ (by simp)]
  have e1 : (K ++ [v]).length = K.length + 1 := by simp
  rw [e1, List.length_map, Nat.sub_self, List.map_cons, List.set_cons_zero]
  simp
theorem at0_mid (K : List Int) (l : List Int) (j : Nat) (h : K.length ≤ j) : at0 (K ++ l.drop K.length) j = at0 l j := by
  simp only [at0, Int.toNat_natCast]
  rw [List.getElem?_append_right h, List.getElem?_drop]
  congr 2; omega
theorem putL_mid (K : List Int) (l : List Int) (h : K.length ≤ l.length) : putL (is (K ++ l.drop K.length)) K.length (List.replicate (l.length - K.length) (T.int .i64 0)) = is (K ++ List.replicate (l.length - K.length) 0) := by
  have hd : List.drop (K.length + (l.length - K.length)) (is (K ++ l.drop K.length)) = [] := List.drop_of_length_le (by rw [is_len, List.length_append, List.length_drop]; omega)
  unfold putL
  rw [List.length_replicate, hd]
  unfold is
  rw [← List.map_take, List.take_append_of_le_length (by omega), List.take_length]
  simp
theorem inl_del {l : List Int} {o n : Int} (hlen : l.length ≤ 17592186044416) (hn : n < 0 ∧ I64 n) {R : V → Own → Prop}
    (hR0 : o ∉ l → R (.sl 85063 0 none) (idxOwn l o n)) (hR : ∀ (ts : List Int) (z : Int) (k : Nat) (r : Int), z = (k : Int) → k ≤ ts.length → ts.take k = delN o (-n).toNat l → R (.sl 85063 0 (some z.toNat)) (idxOwn ts o r)) :
    inl B7 m73 87040 [.sl 85063 0 none, .fn (.func 78) [] [.ptr 68 0, .ptr 69 0]] (idxOwn l o n) R := by
  unfold inl
  conv => whnf
  repeat' (first
    | (refine brK_true rfl ?_; conv => whnf)
    | (refine brK_false rfl ?_; conv => whnf)
    | (refine brK_true (by assumption) ?_; conv => whnf)
    | (refine brK_false (by assumption) ?_; conv => whnf)
    | (refine brK_true ?_ ?_; (focus (simp only [List.length_nil, fx] <;> omega)); conv => whnf)
    | (refine brK_false ?_ ?_; (focus (simp only [List.length_nil, fx] <;> omega)); conv => whnf)
    | ((refine brK_of (fun h => ?_) (fun h => ?_)) <;> (have h2 := h; (try simp only [List.length_nil, fx] at h2); conv => whnf))
    | (refine reqK_of ?_ ?_; (focus (first | decide | omega | assumption | (simp only [List.length_nil, fx] <;> omega) | (simp [keyNew, sameKey, kEq] <;> omega))); conv => whnf)
    | (refine reqK_of ?_ ?_; rotate_left; (conv => whnf); rotate_left)
    | (refine nth_us ?_ ?_ ?_; (focus (first | omega | (simp only [List.length_nil, fx] <;> omega))); (focus (first | omega | (simp only [List.length_nil, fx] <;> omega))); conv => whnf)
    | (refine nth_is ?_ ?_ ?_; (focus (first | omega | (simp only [List.length_nil, fx] <;> omega))); (focus (first | omega | (simp only [List.length_nil, fx] <;> omega))); conv => whnf)
    | (refine nth_bs ?_ ?_ ?_; (focus (first | omega | (simp only [List.length_nil, fx] <;> omega))); (focus (first | omega | (simp only [List.length_nil, fx] <;> omega))); conv => whnf))
  refine .inr ⟨l, o, n, rfl, rfl, hlen, hn, fun z own' hz => ?_⟩
  rcases hz with ⟨k, hk, hz, hko, hkn, rfl⟩ | ⟨hz, hno, rfl⟩
  · have hst : stD l o (-n).toNat (k + 1) = (l.take k, (-n).toNat - 1) := by
      rw [stD, stD_no l o _ k (by omega) hkn, if_pos ⟨hko, by have := hn.1; simp only; omega⟩]
    have htk : (l.take k).length = k := by rw [List.length_take]; omega
    have hn1 : n + 1 = -(((-n).toNat - 1 : Nat) : Int) := by have := hn.1; omega
    have hwz : IntKind.i64.wrap (z + 1) = ((k + 1 : Nat) : Int) := by rw [hz, Int.natCast_succ]; exact wrap_i64 ⟨by omega, by omega⟩
    have hdr : l.take k ++ l.drop k = l := List.take_append_drop k l
    conv => whnf
    repeat' (first
      | (refine brK_true rfl ?_; conv => whnf)
      | (refine brK_false rfl ?_; conv => whnf)
      | (refine brK_true (by assumption) ?_; conv => whnf)
      | (refine brK_false (by assumption) ?_; conv => whnf)
      | (refine brK_true ?_ ?_; (focus (simp only [List.length_nil, fx] <;> omega)); conv => whnf)
      | (refine brK_false ?_ ?_; (focus (simp only [List.length_nil, fx] <;> omega)); conv => whnf)
      | ((refine brK_of (fun h => ?_) (fun h => ?_)) <;> (have h2 := h; (try simp only [List.length_nil, fx] at h2); conv => whnf))
      | (refine reqK_of ?_ ?_; (focus (first | decide | omega | assumption | (simp only [List.length_nil, fx] <;> omega) | (simp [keyNew, sameKey, kEq] <;> omega))); conv => whnf)
      | (refine reqK_of ?_ ?_; rotate_left; (conv => whnf); rotate_left)
      | (refine nth_us ?_ ?_ ?_; (focus (first | omega | (simp only [List.length_nil, fx] <;> omega))); (focus (first | omega | (simp only [List.length_nil, fx] <;> omega))); conv => whnf)
      | (refine nth_is ?_ ?_ ?_; (focus (first | omega | (simp only [List.length_nil, fx] <;> omega))); (focus (first | omega | (simp only [List.length_nil, fx] <;> omega))); conv => whnf)
      | (refine nth_bs ?_ ?_ ?_; (focus (first | omega | (simp only [List.length_nil, fx] <;> omega))); (focus (first | omega | (simp only [List.length_nil, fx] <;> omega))); conv => whnf))
    refine loopFn [] (fun s => [.kill 7, .kill 16, .kill 17, .kill 18, .kill 19, .kill 20, .kill 21, .kill 22, .kill 23, .kill 24, .kill 25, .kill 26, .kill 27, .kill 28, .kill 29, .kill 30, .kill 31, .kill 32, .kill 33, .kill 34, .kill 35]) (fun j : Nat => [(5, .t (.int .i64 (((stD l o (-n).toNat j).1.length : Nat) : Int))), (6, .t (.int .i64 (j : Int)))]) (fun j => idxOwn ((stD l o (-n).toNat j).1 ++ l.drop (stD l o (-n).toNat j).1.length) o (-(((stD l o (-n).toNat j).2 : Nat) : Int))) (fun j => k + 1 ≤ j ∧ j ≤ l.length) (fun j => l.length - j) (k + 1) ⟨Nat.le_refl _, hk⟩ ?_
    conv => whnf
    refine ⟨⟨?_, ?_⟩, fun j hj C hC => ?_⟩
    · rw [hst, htk, ← hwz, ← hz]; rfl
    · rw [hst, htk, hdr, ← hn1]
    obtain ⟨hj1, hj2⟩ := hj
    obtain ⟨hl1, hl2⟩ := stD_len l o (-n).toNat j
    have hwj : IntKind.i64.wrap ((j : Int) + 1) = (j : Int) + 1 := wrap_i64 ⟨by omega, by omega⟩
    have hnx : ∀ x y : List Int × Nat, stD l o (-n).toNat j = x → (if at0 l j = o ∧ 0 < x.2 then (x.1, x.2 - 1) else (x.1 ++ [at0 l j], x.2)) = y → stD l o (-n).toNat (j + 1) = y := fun x y h1 h2 => by rw [stD, h1]; exact h2
    have hC1 := hC (j + 1)
    clear hC
    generalize hKm : stD l o (-n).toNat j = Km at hl1 hl2 hnx ⊢
    obtain ⟨K, m⟩ := Km
    simp only at hl1 hl2
    have hjn : ((Nat.add 0 (j : Int).toNat : Nat) : Int) = (j : Int) := by simp
    have hKn : Nat.add 0 ((K.length : Nat) : Int).toNat = K.length := by simp
    have hwK : IntKind.i64.wrap (((K.length : Nat) : Int) + 1) = ((K.length : Nat) : Int) + 1 := wrap_i64 ⟨by omega, by omega⟩
    have hwm : IntKind.i64.wrap (-((m : Nat) : Int) + 1) = -((m : Nat) : Int) + 1 := by have := hn.2; unfold I64 at this; exact wrap_i64 ⟨by omega, by omega⟩
    have hlen2 : (K ++ l.drop K.length).length = l.length := by simp; omega
    have hat : at0 (K ++ l.drop K.length) j = at0 l j := at0_mid K l j (by omega)
    have hset : K.length < l.length → (is (K ++ l.drop K.length)).set (Nat.add 0 ((K.length : Nat) : Int).toNat) (T.int .i64 (at0 (K ++ l.drop K.length) ((Nat.add 0 (j : Int).toNat : Nat) : Int))) = is ((K ++ [at0 l j]) ++ l.drop (K ++ [at0 l j]).length) := fun h => by
      rw [hKn, hjn, hat]; exact set_mid K l _ h
    have hlenL : lenL (is (K ++ l.drop K.length)) (Nat.add 0 ((K.length : Nat) : Int).toNat) none = ((l.length - K.length : Nat) : Int) := by
      rw [hKn, lenL_eq]; simp only; rw [is_len, hlen2]; omega
    have hput : putL (is (K ++ l.drop K.length)) (Nat.add 0 ((K.length : Nat) : Int).toNat) (List.replicate (lenL (is (K ++ l.drop K.length)) (Nat.add 0 ((K.length : Nat) : Int).toNat) none).toNat (T.int .i64 0)) = is (K ++ List.replicate (l.length - K.length) 0) := by
      rw [hlenL, hKn, Int.toNat_natCast]; exact putL_mid K l (by omega)
    have hK1 : (at0 l j ≠ o ∨ m = 0) → stD l o (-n).toNat (j + 1) = (K ++ [at0 l j], m) := fun h => hnx (K, m) _ rfl (if_neg (by simp only; omega))
    have hlK : ((K ++ [at0 l j]).length : Int) = IntKind.i64.wrap (((K.length : Nat) : Int) + 1) := by rw [hwK]; simp
    have hlj : ((j + 1 : Nat) : Int) = IntKind.i64.wrap ((j : Int) + 1) := by rw [hwj]; simp
    conv => whnf
    repeat' (first
      | (refine brK_true rfl ?_; conv => whnf)
      | (refine brK_false rfl ?_; conv => whnf)
      | (refine brK_true (by assumption) ?_; conv => whnf)
      | (refine brK_false (by assumption) ?_; conv => whnf)
      | (refine brK_true ?_ ?_; (focus (simp only [List.length_nil, fx, hjn, hlen2, hat, hKn] <;> omega)); conv => whnf)
      | (refine brK_false ?_ ?_; (focus (simp only [List.length_nil, fx, hjn, hlen2, hat, hKn] <;> omega)); conv => whnf)
      | ((refine brK_of (fun h => ?_) (fun h => ?_)) <;> (have h2 := h; (try simp only [List.length_nil, fx, hjn, hlen2, hat, hKn] at h2); conv => whnf))
      | (refine reqK_of ?_ ?_; (focus (first | decide | omega | assumption | (simp only [List.length_nil, fx, hjn, hlen2, hat, hKn] <;> omega) | (simp [keyNew, sameKey, kEq] <;> omega))); conv => whnf)
      | (refine reqK_of ?_ ?_; rotate_left; (conv => whnf); rotate_left)
      | (refine nth_us ?_ ?_ ?_; (focus (first | omega | (simp only [List.length_nil, fx, hjn, hlen2, hat, hKn] <;> omega))); (focus (first | omega | (simp only [List.length_nil, fx, hjn, hlen2, hat, hKn] <;> omega))); conv => whnf)
      | (refine nth_is ?_ ?_ ?_; (focus (first | omega | (simp only [List.length_nil, fx, hjn, hlen2, hat, hKn] <;> omega))); (focus (first | omega | (simp only [List.length_nil, fx, hjn, hlen2, hat, hKn] <;> omega))); conv => whnf)
      | (refine nth_bs ?_ ?_ ?_; (focus (first | omega | (simp only [List.length_nil, fx, hjn, hlen2, hat, hKn] <;> omega))); (focus (first | omega | (simp only [List.length_nil, fx, hjn, hlen2, hat, hKn] <;> omega))); conv => whnf))
    · refine loopC (hC1 ⟨by omega, by omega⟩ (by omega)) ?_
      rw [hK1 (.inl (by assumption))]
      dsimp only
      unfold idxOwn
      rw [← hset (by omega), hlK, hlj]
      rfl
    · refine loopC (hC1 ⟨by omega, by omega⟩ (by omega)) ?_
      rw [hK1 (.inr (by simp only at *; omega))]
      dsimp only
      unfold idxOwn
      rw [← hset (by omega), hlK, hlj]
      rfl
    · have hm0 : 0 < m := by simp only at *; omega
      refine loopC (hC1 ⟨by omega, by omega⟩ (by omega)) ?_
      rw [hnx (K, m) (K, m - 1) rfl (if_pos ⟨by assumption, hm0⟩)]
      dsimp only
      rw [show (-((m - 1 : Nat) : Int)) = IntKind.i64.wrap (-((m : Nat) : Int) + 1) by rw [hwm]; omega, hlj]
      rfl
    · show (0 : Int) ≤ ((K.length : Nat) : Int) ∧ ((K.length : Nat) : Int) ≤ lenL (putL (is (K ++ l.drop K.length)) (Nat.add 0 ((K.length : Nat) : Int).toNat) (List.replicate (lenL (is (K ++ l.drop K.length)) (Nat.add 0 ((K.length : Nat) : Int).toNat) none).toNat (T.int .i64 0))) 0 none
      rw [hput]
      refine ⟨by omega, ?_⟩
      show _ ≤ (((is (K ++ List.replicate (l.length - K.length) 0)).length : Nat) : Int)
      rw [is_len, List.length_append]; omega
    · have hjl : j = l.length := by omega
      have hKd : K = delN o (-n).toNat l := by
        have := stD_end l o (-n).toNat
        rw [← hjl, hKm] at this
        exact this
      show R (.sl 85063 0 (some ((K.length : Nat) : Int).toNat)) [(85063, .lst 1 (putL (is (K ++ l.drop K.length)) (Nat.add 0 ((K.length : Nat) : Int).toNat) (List.replicate (lenL (is (K ++ l.drop K.length)) (Nat.add 0 ((K.length : Nat) : Int).toNat) none).toNat (T.int .i64 0))) 0), (69, .cells [.t (.int .i64 (-((m : Nat) : Int)))]), (68, .cells [.t (.int .i64 o)])]
      rw [hput]
      exact hR _ _ K.length _ rfl (by simp) (by rw [List.take_left', ← hKd]; rfl)
  · conv => whnf
    repeat' (first
      | (refine brK_true rfl ?_; conv => whnf)
      | (refine brK_false rfl ?_; conv => whnf)
      | (refine brK_true (by assumption) ?_; conv => whnf)
      | (refine brK_false (by assumption) ?_; conv => whnf)
      | (refine brK_true ?_ ?_; (focus (simp only [List.length_nil, fx] <;> omega)); conv => whnf)
      | (refine brK_false ?_ ?_; (focus (simp only [List.length_nil, fx] <;> omega)); conv => whnf)
      | ((refine brK_of (fun h => ?_) (fun h => ?_)) <;> (have h2 := h; (try simp only [List.length_nil, fx] at h2); conv => whnf))
      | (refine reqK_of ?_ ?_; (focus (first | decide | omega | assumption | (simp only [List.length_nil, fx] <;> omega) | (simp [keyNew, sameKey, kEq] <;> omega))); conv => whnf)
      | (refine reqK_of ?_ ?_; rotate_left; (conv => whnf); rotate_left)
      | (refine nth_us ?_ ?_ ?_; (focus (first | omega | (simp only [List.length_nil, fx] <;> omega))); (focus (first | omega | (simp only [List.length_nil, fx] <;> omega))); conv => whnf)
      | (refine nth_is ?_ ?_ ?_; (focus (first | omega | (simp only [List.length_nil, fx] <;> omega))); (focus (first | omega | (simp only [List.length_nil, fx] <;> omega))); conv => whnf)
      | (refine nth_bs ?_ ?_ ?_; (focus (first | omega | (simp only [List.length_nil, fx] <;> omega))); (focus (first | omega | (simp only [List.length_nil, fx] <;> omega))); conv => whnf))
    exact hR0 fun hm => by
      obtain ⟨j, hj, e⟩ := List.mem_iff_getElem.1 hm
      exact hno j hj (by simp [at0, hj, e])
theorem inl_del_nil {base : Nat} {o n : Int} {R : V → Own → Prop} (hR : R (.t .nils) [(69, .cells [.t (.int .i64 n)]), (68, .cells [.t (.int .i64 o)])]) :
    inl B7 m73 base [.t .nils, .fn (.func 78) [] [.ptr 68 0, .ptr 69 0]] [(69, .cells [.t (.int .i64 n)]), (68, .cells [.t (.int .i64 o)])] R := by
  unfold inl
  conv => whnf
  repeat' (first
    | (refine brK_true rfl ?_; conv => whnf)
    | (refine brK_false rfl ?_; conv => whnf)
    | (refine brK_true (by assumption) ?_; conv => whnf)
    | (refine brK_false (by assumption) ?_; conv => whnf)
    | (refine brK_true ?_ ?_; (focus (simp only [List.length_nil, fx] <;> omega)); conv => whnf)
    | (refine brK_false ?_ ?_; (focus (simp only [List.length_nil, fx] <;> omega)); conv => whnf)
    | ((refine brK_of (fun h => ?_) (fun h => ?_)) <;> (have h2 := h; (try simp only [List.length_nil, fx] at h2); conv => whnf))
    | (refine reqK_of ?_ ?_; (focus (first | decide | omega | assumption | (simp only [List.length_nil, fx] <;> omega) | (simp [keyNew, sameKey, kEq] <;> omega))); conv => whnf)
    | (refine reqK_of ?_ ?_; rotate_left; (conv => whnf); rotate_left)
    | (refine nth_us ?_ ?_ ?_; (focus (first | omega | (simp only [List.length_nil, fx] <;> omega))); (focus (first | omega | (simp only [List.length_nil, fx] <;> omega))); conv => whnf)
    | (refine nth_is ?_ ?_ ?_; (focus (first | omega | (simp only [List.length_nil, fx] <;> omega))); (focus (first | omega | (simp only [List.length_nil, fx] <;> omega))); conv => whnf)
    | (refine nth_bs ?_ ?_ ?_; (focus (first | omega | (simp only [List.length_nil, fx] <;> omega))); (focus (first | omega | (simp only [List.length_nil, fx] <;> omega))); conv => whnf))
  refine .inl ⟨o, n, rfl, rfl, fun z hz => ?_⟩
  conv => whnf
  repeat' (first
    | (refine brK_true rfl ?_; conv => whnf)
    | (refine brK_false rfl ?_; conv => whnf)
    | (refine brK_true (by assumption) ?_; conv => whnf)
    | (refine brK_false (by assumption) ?_; conv => whnf)
    | (refine brK_true ?_ ?_; (focus (simp only [List.length_nil, fx] <;> omega)); conv => whnf)
    | (refine brK_false ?_ ?_; (focus (simp only [List.length_nil, fx] <;> omega)); conv => whnf)
    | ((refine brK_of (fun h => ?_) (fun h => ?_)) <;> (have h2 := h; (try simp only [List.length_nil, fx] at h2); conv => whnf))
    | (refine reqK_of ?_ ?_; (focus (first | decide | omega | assumption | (simp only [List.length_nil, fx] <;> omega) | (simp [keyNew, sameKey, kEq] <;> omega))); conv => whnf)
    | (refine reqK_of ?_ ?_; rotate_left; (conv => whnf); rotate_left)
    | (refine nth_us ?_ ?_ ?_; (focus (first | omega | (simp only [List.length_nil, fx] <;> omega))); (focus (first | omega | (simp only [List.length_nil, fx] <;> omega))); conv => whnf)
    | (refine nth_is ?_ ?_ ?_; (focus (first | omega | (simp only [List.length_nil, fx] <;> omega))); (focus (first | omega | (simp only [List.length_nil, fx] <;> omega))); conv => whnf)
    | (refine nth_bs ?_ ?_ ?_; (focus (first | omega | (simp only [List.length_nil, fx] <;> omega))); (focus (first | omega | (simp only [List.length_nil, fx] <;> omega))); conv => whnf))
  exact hR
def ptDel : Pt := fun base args own R => (∃ o n, args = [.t .nils, .fn (.func 78) [] [.ptr 68 0, .ptr 69 0]] ∧ own = [(69, .cells [.t (.int .i64 n)]), (68, .cells [.t (.int .i64 o)])] ∧ R (.t .nils) own) ∨
  ∃ l o n, base = 87040 ∧ args = [.sl 85063 0 none, .fn (.func 78) [] [.ptr 68 0, .ptr 69 0]] ∧ own = idxOwn l o n ∧ l.length ≤ 17592186044416 ∧ (n < 0 ∧ I64 n) ∧ (o ∉ l → R (.sl 85063 0 none) (idxOwn l o n)) ∧
    ∀ (ts : List Int) (z : Int) (k : Nat) (r : Int), z = (k : Int) → k ≤ ts.length → ts.take k = delN o (-n).toNat l → R (.sl 85063 0 (some z.toNat)) (idxOwn ts o r)
theorem ptDel_ok (base : Nat) (args : List V) (own : Own) (R : V → Own → Prop) (h : ptDel base args own R) : FnV Tryd.prog tgl 73 args own R := by
  rcases h with ⟨o, n, rfl, rfl, h⟩ | ⟨l, o, n, rfl, rfl, rfl, h1, h2, h3, h4⟩
  · exact inl_ok (base := base) env_B7 Tryd.func73 low73 (inl_del_nil h)
  · exact inl_ok env_B7 Tryd.func73 low73 (inl_del h1 h2 h3 h4)
noncomputable def lB8 : List (Nat × (List T → Ans)) := lB7
noncomputable def iB8 : List (Nat × Pt) := (73, ptDel) :: iB7
noncomputable abbrev B8 : Env := En tgl lB8 iB8
theorem env_B8 : EnvOk Tryd.prog B8 := env_ptB env_B7 ptDel_ok
theorem delN_nil (o : Int) (m : Nat) : delN o m ([] : List Int) = [] := by cases m <;> rfl
theorem delN_sub (o : Int) : ∀ (m : Nat) (l : List Int), ∀ x ∈ delN o m l, x ∈ l
  | m, [], x, h => by rw [delN_nil] at h; exact h
  | 0, y :: l, x, h => h
  | m + 1, y :: l, x, h => by
    rw [delN] at h
    split at h
    · exact List.mem_cons_of_mem _ (delN_sub o m l x h)
    · rcases List.mem_cons.1 h with rfl | h
      · simp
      · exact List.mem_cons_of_mem _ (delN_sub o (m + 1) l x h)
theorem ok48 (xs : List T) (o n : Int) (hq : (IsI xs ∧ (xs.length + (minI n 1000).toNat) * 8 ≤ maxBytes) ∧ I64 o ∧ I64 n) : FnOk Tryd.prog tgl 48 [.list 1 xs, .int .i64 o, .int .i64 n] (.list 1 (is (addB (nums xs) o n))) := by
  refine fn_ok (Γ := B8) env_B8 Tryd.func48 low48 ?_
  obtain ⟨⟨⟨l, rfl, hl⟩, hs⟩, ho, hn64⟩ := hq
  unfold maxBytes at hs
  rw [is_len] at hs
  have hq1 : IsI (is l) ∧ SzB (is l) := ⟨isI_is hl, by unfold SzB maxBytes; rw [is_len]; omega⟩
  rw [nums_is]
  by_cases hn : 0 ≤ n
  · have hq2 : 0 ≤ minI n 1000 ∧ minI n 1000 ≤ 1000 := by rw [minI_def]; split <;> omega
    have hmin : minI n 1000 = min n 1000 := by rw [minI_def]; omega
    have hb : ((is l).length + (is (List.replicate (minI n 1000).toNat o)).length) * 8 ≤ maxBytes := by
      rw [is_len, is_len, List.length_replicate]; unfold maxBytes; omega
    have hqa : IsI (subL (subL (is l) 0 none ++ is (List.replicate (minI n 1000).toNat o)) 0 none) ∧ SzB (subL (subL (is l) 0 none ++ is (List.replicate (minI n 1000).toNat o)) 0 none) := by
      rw [subL_00, subL_00, is_app]
      refine ⟨isI_is fun m hm => ?_, ?_⟩
      · rcases List.mem_append.1 hm with h | h
        · exact hl m h
        · rw [List.eq_of_mem_replicate h]; exact ho
      · unfold SzB maxBytes; rw [is_len, List.length_append, List.length_replicate]; omega
    conv => whnf
    repeat' (first
      | (refine brK_true rfl ?_; conv => whnf)
      | (refine brK_false rfl ?_; conv => whnf)
      | (refine brK_true (by assumption) ?_; conv => whnf)
      | (refine brK_false (by assumption) ?_; conv => whnf)
      | (refine brK_true ?_ ?_; (focus (simp only [List.length_nil, fx] <;> omega)); conv => whnf)
      | (refine brK_false ?_ ?_; (focus (simp only [List.length_nil, fx] <;> omega)); conv => whnf)
      | ((refine brK_of (fun h => ?_) (fun h => ?_)) <;> (have h2 := h; (try simp only [List.length_nil, fx] at h2); conv => whnf))
      | (refine reqK_of ?_ ?_; (focus (first | decide | omega | assumption | (simp only [List.length_nil, fx] <;> omega) | (simp [keyNew, sameKey, kEq] <;> omega))); conv => whnf)
      | (refine reqK_of ?_ ?_; rotate_left; (conv => whnf); rotate_left)
      | (refine nth_us ?_ ?_ ?_; (focus (first | omega | (simp only [List.length_nil, fx] <;> omega))); (focus (first | omega | (simp only [List.length_nil, fx] <;> omega))); conv => whnf)
      | (refine nth_is ?_ ?_ ?_; (focus (first | omega | (simp only [List.length_nil, fx] <;> omega))); (focus (first | omega | (simp only [List.length_nil, fx] <;> omega))); conv => whnf)
      | (refine nth_bs ?_ ?_ ?_; (focus (first | omega | (simp only [List.length_nil, fx] <;> omega))); (focus (first | omega | (simp only [List.length_nil, fx] <;> omega))); conv => whnf))
    rw [subL_00, subL_00, is_app, nums_is]
    unfold addB
    rw [if_pos hn, hmin]
  · have hlb : (is l).length * 8 ≤ maxBytes := hq1.2
    have hlen := sz_lenB hq1.2
    have hn' : n < 0 := by omega
    have had : addB l o n = srt (delN o (-n).toNat l) := by unfold addB; rw [if_neg hn]
    conv => whnf
    repeat' (first
      | (refine brK_true rfl ?_; conv => whnf)
      | (refine brK_false rfl ?_; conv => whnf)
      | (refine brK_true (by assumption) ?_; conv => whnf)
      | (refine brK_false (by assumption) ?_; conv => whnf)
      | (refine brK_true ?_ ?_; (focus (simp only [List.length_nil, fx] <;> omega)); conv => whnf)
      | (refine brK_false ?_ ?_; (focus (simp only [List.length_nil, fx] <;> omega)); conv => whnf)
      | ((refine brK_of (fun h => ?_) (fun h => ?_)) <;> (have h2 := h; (try simp only [List.length_nil, fx] at h2); conv => whnf))
      | (refine reqK_of ?_ ?_; (focus (first | decide | omega | assumption | (simp only [List.length_nil, fx] <;> omega) | (simp [keyNew, sameKey, kEq] <;> omega))); conv => whnf)
      | (refine reqK_of ?_ ?_; rotate_left; (conv => whnf); rotate_left)
      | (refine nth_us ?_ ?_ ?_; (focus (first | omega | (simp only [List.length_nil, fx] <;> omega))); (focus (first | omega | (simp only [List.length_nil, fx] <;> omega))); conv => whnf)
      | (refine nth_is ?_ ?_ ?_; (focus (first | omega | (simp only [List.length_nil, fx] <;> omega))); (focus (first | omega | (simp only [List.length_nil, fx] <;> omega))); conv => whnf)
      | (refine nth_bs ?_ ?_ ?_; (focus (first | omega | (simp only [List.length_nil, fx] <;> omega))); (focus (first | omega | (simp only [List.length_nil, fx] <;> omega))); conv => whnf))
    refine altK_of ?_ (fun hnil => ?_)
    · conv => whnf
      repeat' (first
        | (refine brK_true rfl ?_; conv => whnf)
        | (refine brK_false rfl ?_; conv => whnf)
        | (refine brK_true (by assumption) ?_; conv => whnf)
        | (refine brK_false (by assumption) ?_; conv => whnf)
        | (refine brK_true ?_ ?_; (focus (simp only [List.length_nil, fx] <;> omega)); conv => whnf)
        | (refine brK_false ?_ ?_; (focus (simp only [List.length_nil, fx] <;> omega)); conv => whnf)
        | ((refine brK_of (fun h => ?_) (fun h => ?_)) <;> (have h2 := h; (try simp only [List.length_nil, fx] at h2); conv => whnf))
        | (refine reqK_of ?_ ?_; (focus (first | decide | omega | assumption | (simp only [List.length_nil, fx] <;> omega) | (simp [keyNew, sameKey, kEq] <;> omega))); conv => whnf)
        | (refine reqK_of ?_ ?_; rotate_left; (conv => whnf); rotate_left)
        | (refine nth_us ?_ ?_ ?_; (focus (first | omega | (simp only [List.length_nil, fx] <;> omega))); (focus (first | omega | (simp only [List.length_nil, fx] <;> omega))); conv => whnf)
        | (refine nth_is ?_ ?_ ?_; (focus (first | omega | (simp only [List.length_nil, fx] <;> omega))); (focus (first | omega | (simp only [List.length_nil, fx] <;> omega))); conv => whnf)
        | (refine nth_bs ?_ ?_ ?_; (focus (first | omega | (simp only [List.length_nil, fx] <;> omega))); (focus (first | omega | (simp only [List.length_nil, fx] <;> omega))); conv => whnf))
      refine .inr ⟨l, o, n, rfl, rfl, rfl, hlen, ⟨hn', hn64⟩, fun hno => ?_, fun ts z k r hz hk ht => ?_⟩
      · conv => whnf
        repeat' (first
          | (refine brK_true rfl ?_; conv => whnf)
          | (refine brK_false rfl ?_; conv => whnf)
          | (refine brK_true (by assumption) ?_; conv => whnf)
          | (refine brK_false (by assumption) ?_; conv => whnf)
          | (refine brK_true ?_ ?_; (focus (simp only [List.length_nil, fx] <;> omega)); conv => whnf)
          | (refine brK_false ?_ ?_; (focus (simp only [List.length_nil, fx] <;> omega)); conv => whnf)
          | ((refine brK_of (fun h => ?_) (fun h => ?_)) <;> (have h2 := h; (try simp only [List.length_nil, fx] at h2); conv => whnf))
          | (refine reqK_of ?_ ?_; (focus (first | decide | omega | assumption | (simp only [List.length_nil, fx] <;> omega) | (simp [keyNew, sameKey, kEq] <;> omega))); conv => whnf)
          | (refine reqK_of ?_ ?_; rotate_left; (conv => whnf); rotate_left)
          | (refine nth_us ?_ ?_ ?_; (focus (first | omega | (simp only [List.length_nil, fx] <;> omega))); (focus (first | omega | (simp only [List.length_nil, fx] <;> omega))); conv => whnf)
          | (refine nth_is ?_ ?_ ?_; (focus (first | omega | (simp only [List.length_nil, fx] <;> omega))); (focus (first | omega | (simp only [List.length_nil, fx] <;> omega))); conv => whnf)
          | (refine nth_bs ?_ ?_ ?_; (focus (first | omega | (simp only [List.length_nil, fx] <;> omega))); (focus (first | omega | (simp only [List.length_nil, fx] <;> omega))); conv => whnf))
        rw [subL_00, nums_is, had, delN_no _ _ _ hno]
      · have hsb : subL (is ts) 0 (some z.toNat) = is (delN o (-n).toNat l) := by
          rw [← ht, hz]; simp [subL, is, List.map_take]
        have hqd : IsI (subL (is ts) 0 (some z.toNat)) ∧ SzB (subL (is ts) 0 (some z.toNat)) := by
          rw [hsb]
          refine ⟨isI_is fun x hx => hl x (delN_sub _ _ _ x hx), sz_B ?_⟩
          have := delN_len o (-n).toNat l
          omega
        conv => whnf
        repeat' (first
          | (refine brK_true rfl ?_; conv => whnf)
          | (refine brK_false rfl ?_; conv => whnf)
          | (refine brK_true (by assumption) ?_; conv => whnf)
          | (refine brK_false (by assumption) ?_; conv => whnf)
          | (refine brK_true ?_ ?_; (focus (simp only [List.length_nil, fx] <;> omega)); conv => whnf)
          | (refine brK_false ?_ ?_; (focus (simp only [List.length_nil, fx] <;> omega)); conv => whnf)
          | ((refine brK_of (fun h => ?_) (fun h => ?_)) <;> (have h2 := h; (try simp only [List.length_nil, fx] at h2); conv => whnf))
          | (refine reqK_of ?_ ?_; (focus (first | decide | omega | assumption | (simp only [List.length_nil, fx] <;> omega) | (simp [keyNew, sameKey, kEq] <;> omega))); conv => whnf)
          | (refine reqK_of ?_ ?_; rotate_left; (conv => whnf); rotate_left)
          | (refine nth_us ?_ ?_ ?_; (focus (first | omega | (simp only [List.length_nil, fx] <;> omega))); (focus (first | omega | (simp only [List.length_nil, fx] <;> omega))); conv => whnf)
          | (refine nth_is ?_ ?_ ?_; (focus (first | omega | (simp only [List.length_nil, fx] <;> omega))); (focus (first | omega | (simp only [List.length_nil, fx] <;> omega))); conv => whnf)
          | (refine nth_bs ?_ ?_ ?_; (focus (first | omega | (simp only [List.length_nil, fx] <;> omega))); (focus (first | omega | (simp only [List.length_nil, fx] <;> omega))); conv => whnf))
        rw [hsb, nums_is, had]
    · have hnil := is_nil_iff.1 hnil
      subst hnil
      conv => whnf
      repeat' (first
        | (refine brK_true rfl ?_; conv => whnf)
        | (refine brK_false rfl ?_; conv => whnf)
        | (refine brK_true (by assumption) ?_; conv => whnf)
        | (refine brK_false (by assumption) ?_; conv => whnf)
        | (refine brK_true ?_ ?_; (focus (simp only [List.length_nil, fx] <;> omega)); conv => whnf)
        | (refine brK_false ?_ ?_; (focus (simp only [List.length_nil, fx] <;> omega)); conv => whnf)
        | ((refine brK_of (fun h => ?_) (fun h => ?_)) <;> (have h2 := h; (try simp only [List.length_nil, fx] at h2); conv => whnf))
        | (refine reqK_of ?_ ?_; (focus (first | decide | omega | assumption | (simp only [List.length_nil, fx] <;> omega) | (simp [keyNew, sameKey, kEq] <;> omega))); conv => whnf)
        | (refine reqK_of ?_ ?_; rotate_left; (conv => whnf); rotate_left)
        | (refine nth_us ?_ ?_ ?_; (focus (first | omega | (simp only [List.length_nil, fx] <;> omega))); (focus (first | omega | (simp only [List.length_nil, fx] <;> omega))); conv => whnf)
        | (refine nth_is ?_ ?_ ?_; (focus (first | omega | (simp only [List.length_nil, fx] <;> omega))); (focus (first | omega | (simp only [List.length_nil, fx] <;> omega))); conv => whnf)
        | (refine nth_bs ?_ ?_ ?_; (focus (first | omega | (simp only [List.length_nil, fx] <;> omega))); (focus (first | omega | (simp only [List.length_nil, fx] <;> omega))); conv => whnf))
      refine .inl ⟨o, n, rfl, rfl, ?_⟩
      conv => whnf
      repeat' (first
        | (refine brK_true rfl ?_; conv => whnf)
        | (refine brK_false rfl ?_; conv => whnf)
        | (refine brK_true (by assumption) ?_; conv => whnf)
        | (refine brK_false (by assumption) ?_; conv => whnf)
        | (refine brK_true ?_ ?_; (focus (simp only [List.length_nil, fx] <;> omega)); conv => whnf)
        | (refine brK_false ?_ ?_; (focus (simp only [List.length_nil, fx] <;> omega)); conv => whnf)
        | ((refine brK_of (fun h => ?_) (fun h => ?_)) <;> (have h2 := h; (try simp only [List.length_nil, fx] at h2); conv => whnf))
        | (refine reqK_of ?_ ?_; (focus (first | decide | omega | assumption | (simp only [List.length_nil, fx] <;> omega) | (simp [keyNew, sameKey, kEq] <;> omega))); conv => whnf)
        | (refine reqK_of ?_ ?_; rotate_left; (conv => whnf); rotate_left)
        | (refine nth_us ?_ ?_ ?_; (focus (first | omega | (simp only [List.length_nil, fx] <;> omega))); (focus (first | omega | (simp only [List.length_nil, fx] <;> omega))); conv => whnf)
        | (refine nth_is ?_ ?_ ?_; (focus (first | omega | (simp only [List.length_nil, fx] <;> omega))); (focus (first | omega | (simp only [List.length_nil, fx] <;> omega))); conv => whnf)
        | (refine nth_bs ?_ ?_ ?_; (focus (first | omega | (simp only [List.length_nil, fx] <;> omega))); (focus (first | omega | (simp only [List.length_nil, fx] <;> omega))); conv => whnf))
      rw [had, delN_nil]
      unfold srt
      rw [List.mergeSort_nil]
      rfl
theorem ok48_2 (o n : Int) (hq : I64 o ∧ 0 ≤ n ∧ n ≤ 1000) : FnOk Tryd.prog tgl 48 [.nils, .int .i64 o, .int .i64 n] (.list 1 (is (addB [] o n))) := by
  refine fn_ok (Γ := B8) env_B8 Tryd.func48 low48 ?_
  obtain ⟨ho, hn0, hn1⟩ := hq
  have hmi : minI n 1000 = n := by rw [minI_def]; split <;> omega
  have hmin : min n 1000 = n := by omega
  have hq2 : 0 ≤ minI n 1000 ∧ minI n 1000 ≤ 1000 := by omega
  have hb : ((([] : List T)).length + (is (List.replicate (minI n 1000).toNat o)).length) * 8 ≤ maxBytes := by
    rw [is_len, List.length_replicate, hmi]; unfold maxBytes; simp only [List.length_nil]; omega
  have hqa : IsI (subL (subL [] 0 none ++ is (List.replicate (minI n 1000).toNat o)) 0 none) ∧ SzB (subL (subL [] 0 none ++ is (List.replicate (minI n 1000).toNat o)) 0 none) := by
    rw [subL_00, subL_00, List.nil_append]
    exact ⟨isI_is fun m hm => by rw [List.eq_of_mem_replicate hm]; exact ho, sz_B (by rw [List.length_replicate]; omega)⟩
  conv => whnf
  repeat' (first
    | (refine brK_true rfl ?_; conv => whnf)
    | (refine brK_false rfl ?_; conv => whnf)
    | (refine brK_true (by assumption) ?_; conv => whnf)
    | (refine brK_false (by assumption) ?_; conv => whnf)
    | (refine brK_true ?_ ?_; (focus (simp only [List.length_nil, fx] <;> omega)); conv => whnf)
    | (refine brK_false ?_ ?_; (focus (simp only [List.length_nil, fx] <;> omega)); conv => whnf)
    | ((refine brK_of (fun h => ?_) (fun h => ?_)) <;> (have h2 := h; (try simp only [List.length_nil, fx] at h2); conv => whnf))
    | (refine reqK_of ?_ ?_; (focus (first | decide | omega | assumption | (simp only [List.length_nil, fx] <;> omega) | (simp [keyNew, sameKey, kEq] <;> omega))); conv => whnf)
    | (refine reqK_of ?_ ?_; rotate_left; (conv => whnf); rotate_left)
    | (refine nth_us ?_ ?_ ?_; (focus (first | omega | (simp only [List.length_nil, fx] <;> omega))); (focus (first | omega | (simp only [List.length_nil, fx] <;> omega))); conv => whnf)
    | (refine nth_is ?_ ?_ ?_; (focus (first | omega | (simp only [List.length_nil, fx] <;> omega))); (focus (first | omega | (simp only [List.length_nil, fx] <;> omega))); conv => whnf)
    | (refine nth_bs ?_ ?_ ?_; (focus (first | omega | (simp only [List.length_nil, fx] <;> omega))); (focus (first | omega | (simp only [List.length_nil, fx] <;> omega))); conv => whnf))
  rw [subL_00, subL_00, List.nil_append, nums_is, hmi]
  unfold addB
  rw [if_pos hn0, hmin, List.nil_append]
open Classical in
noncomputable def c48 : List T → Ans
  | [.list 1 xs, .int .i64 o, .int .i64 n] => .req ((IsI xs ∧ (xs.length + (minI n 1000).toNat) * 8 ≤ maxBytes) ∧ I64 o ∧ I64 n) (.list 1 (is (addB (nums xs) o n)))
  | [.nils, .int .i64 o, .int .i64 n] => .req (I64 o ∧ 0 ≤ n ∧ n ≤ 1000) (.list 1 (is (addB [] o n)))
  | _ => .no
theorem got48 {vs : List T} {x : T} (h : Got (c48 vs) x) : FnOk Tryd.prog tgl 48 vs x := by
  unfold c48 at h
  split at h
  · obtain ⟨hq, e⟩ := got_req h; rw [e]; exact ok48 _ _ _ hq
  · obtain ⟨hq, e⟩ := got_req h; rw [e]; exact ok48_2 _ _ hq
  · exact (got_no h).elim
theorem nogl48 (vs : List T) (p : Prop) (d : Decidable p) (sz : Nat) (xs : List T) (h : c48 vs = @Ans.gl p d sz xs) : False := by
  unfold c48 at h
  split at h <;> cases h
theorem pk48 (vs : List T) (p : Prop) (d : Decidable p) (x : T) (h : c48 vs = @Ans.pk p d x) (hp : p) : FnOk Tryd.prog tgl 48 vs x := by
  unfold c48 at h
  split at h
  · cases h
  · cases h
  · cases h
end Go.Nx
end
section
set_option linter.unusedVariables false
set_option linter.unusedSimpArgs false
set_option maxRecDepth 100000
set_option maxHeartbeats 4000000
namespace Go.Nx
open Go.RowKit Go.Proofs

def isIB : List T → Bool
  | [] => true
  | x :: r => match x with
    | .int .i64 n => match decide (-9223372036854775808 ≤ n ∧ n < 9223372036854775808) with
      | true => isIB r
      | false => false
    | _ => false
theorem isIB_spec : ∀ {xs : List T}, isIB xs = true → IsI xs
  | [], _ => ⟨[], rfl, by simp⟩
  | x :: r, h => by
    unfold isIB at h
    split at h
    · rename_i n
      split at h
      · rename_i e
        have e := of_decide_eq_true e
        obtain ⟨l, rfl, hl⟩ := isIB_spec h
        exact ⟨n :: l, rfl, fun m hm => by
          rcases List.mem_cons.1 hm with rfl | hm
          · unfold I64; omega
          · exact hl m hm⟩
      · cases h
    · cases h
def addI (l : List Int) (o n : Int) : List Int := match decide (0 ≤ n) with
  | true => isrt (l ++ List.replicate (min n 1000).toNat o)
  | false => isrt (delN o (-n).toNat l)
theorem addI_eq (l : List Int) (o n : Int) : addB l o n = addI l o n := by
  unfold addB addI
  by_cases h : 0 ≤ n
  · rw [if_pos h, decide_eq_true h, srt_isrt]
  · rw [if_neg h, decide_eq_false h, srt_isrt]
def extB (f : Nat) (ts : List T) : Ans := match Nat.beq f 48 with
  | true => match ts with
    | [.list 1 xs, .int .i64 o, .int .i64 n] => match isIB xs && decide (xs.length ≤ 1000) && decide (-1000 ≤ o ∧ o ≤ 1000 ∧ -1000 ≤ n ∧ n ≤ 1000) with
      | true => .yes (.list 1 (is (addI (nums xs) o n)))
      | false => .no
    | _ => .no
  | false => match Nat.beq f 16 with
    | true => match ts with
      | [.list 1 xs, .list 1 ys] => match isIB xs && isIB ys && decide (xs.length ≤ 1000 ∧ ys.length ≤ 1000) with
        | true => .yes (.list 1 (is (isrt (nums xs ++ nums ys))))
        | false => .no
      | _ => .no
    | false => .no
theorem extB_ok : ExtOk Tryd.prog tgl extB := by
  refine ⟨fun f vs x h0 => ?_, fun f vs p d sz xs h hp => ?_, fun f vs p d x h hp => ?_⟩
  · have h : extB f vs = .yes x := by
      rcases h0 with h | ⟨p, d, h, _⟩
      · exact h
      · exfalso
        unfold extB at h
        repeat' (split at h)
        all_goals cases h
    clear h0
    unfold extB at h
    split at h
    · rename_i hf
      obtain rfl := Nat.eq_of_beq_eq_true hf
      split at h
      · split at h
        · rename_i hd
          simp only [Bool.and_eq_true, decide_eq_true_eq] at hd
          cases h
          rw [← addI_eq]
          have hI := isIB_spec hd.1.1
          refine ok48 _ _ _ ⟨⟨hI, ?_⟩, ?_, ?_⟩
          · have := hd.1.2
            have h2 : ∀ n : Int, (minI n 1000).toNat ≤ 1000 := fun n => by rw [minI_def]; split <;> omega
            unfold maxBytes
            exact Nat.le_trans (Nat.mul_le_mul_right _ (Nat.add_le_add this (h2 _))) (by decide)
          · unfold I64; omega
          · unfold I64; omega
        · cases h
      · cases h
    · split at h
      · rename_i hf
        obtain rfl := Nat.eq_of_beq_eq_true hf
        split at h
        · split at h
          · rename_i hd
            simp only [Bool.and_eq_true, decide_eq_true_eq] at hd
            cases h
            rw [← srt_isrt]
            refine ok16 _ _ ⟨⟨isIB_spec hd.1.1, isIB_spec hd.1.2⟩, ?_⟩
            have := hd.2
            unfold maxBytes; omega
          · cases h
        · cases h
      · cases h
  · exfalso
    unfold extB at h
    repeat' (split at h)
    all_goals cases h
  · exfalso
    unfold extB at h
    repeat' (split at h)
    all_goals cases h
noncomputable def tabB : List (Nat × Nat × MFn) := [(3, 0, m3), (4, 0, m4), (5, 0, m5), (6, 0, m6), (7, 0, m7), (8, 0, m8), (9, 0, m9), (10, 0, m10), (11, 0, m11), (12, 0, m12), (13, 0, m13), (14, 0, m14), (17, 0, m17), (18, 0, m18), (19, 0, m19), (20, 0, m20), (21, 0, m21), (22, 0, m22), (23, 0, m23), (24, 0, m24), (25, 0, m25), (26, 0, m26), (27, 0, m27), (28, 0, m28), (29, 0, m29), (30, 0, m30), (31, 0, m31), (32, 0, m32), (33, 0, m33), (34, 0, m34), (35, 0, m35), (36, 0, m36), (37, 0, m37), (38, 0, m38), (39, 0, m39), (40, 0, m40), (41, 0, m41), (42, 0, m42), (43, 0, m43), (44, 0, m44), (45, 0, m45), (46, 0, m46), (47, 0, m47), (49, 0, m49), (50, 0, m50), (51, 0, m51), (52, 1, m52), (54, 0, m54), (55, 0, m55), (56, 0, m56), (57, 0, m57), (58, 0, m58), (59, 0, m59), (60, 0, m60), (61, 0, m61), (62, 0, m62), (63, 0, m63), (64, 0, m64), (65, 0, m65), (66, 0, m66), (67, 0, m67), (68, 0, m68), (69, 0, m69), (70, 0, m70), (71, 0, m71), (72, 0, m72), (73, 1, m73), (74, 1, m74), (75, 0, m75), (76, 1, m76), (78, 0, m78), (79, 0, m79), (80, 0, m80), (81, 0, m81), (82, 1, m82), (84, 0, m84), (85, 0, m85), (86, 0, m86), (87, 0, m87), (88, 0, m88), (89, 0, m89), (90, 1, m90), (91, 0, m91), (92, 1, m92), (93, 0, m93), (94, 0, m94), (95, 0, m95), (96, 0, m96), (97, 0, m97), (98, 0, m98), (99, 0, m99), (101, 0, m101), (102, 0, m102), (103, 0, m103), (104, 1, m104), (105, 0, m105), (106, 0, m106), (107, 0, m107), (108, 0, m108), (109, 0, m109), (110, 0, m110), (111, 0, m111), (112, 0, m112), (113, 0, m113), (114, 0, m114), (115, 0, m115), (116, 0, m116), (118, 0, m118), (119, 0, m119), (120, 0, m120), (121, 0, m121), (122, 0, m122), (123, 0, m123), (124, 0, m124), (125, 0, m125), (126, 0, m126), (127, 0, m127), (130, 0, m130), (131, 0, m131), (132, 0, m132), (133, 0, m133), (134, 0, m134), (135, 0, m135), (136, 0, m136), (137, 0, m137), (139, 0, m139), (140, 0, m140), (141, 0, m141), (142, 0, m142), (143, 0, m143), (144, 0, m144), (145, 0, m145), (146, 0, m146), (147, 0, m147), (148, 0, m148), (150, 0, m150), (151, 0, m151), (152, 0, m152), (153, 0, m153), (184, 0, m184)]
theorem tabB_ok : ∀ p ∈ tabB, ∃ fn, Tryd.prog.funcs[p.1]? = some fn ∧ lowFn Tryd.prog fn = some p.2.2 := (tab_cons ⟨_, Tryd.func3, low3⟩ (tab_cons ⟨_, Tryd.func4, low4⟩ (tab_cons ⟨_, Tryd.func5, low5⟩ (tab_cons ⟨_, Tryd.func6, low6⟩ (tab_cons ⟨_, Tryd.func7, low7⟩ (tab_cons ⟨_, Tryd.func8, low8⟩ (tab_cons ⟨_, Tryd.func9, low9⟩ (tab_cons ⟨_, Tryd.func10, low10⟩ (tab_cons ⟨_, Tryd.func11, low11⟩ (tab_cons ⟨_, Tryd.func12, low12⟩ (tab_cons ⟨_, Tryd.func13, low13⟩ (tab_cons ⟨_, Tryd.func14, low14⟩ (tab_cons ⟨_, Tryd.func17, low17⟩ (tab_cons ⟨_, Tryd.func18, low18⟩ (tab_cons ⟨_, Tryd.func19, low19⟩ (tab_cons ⟨_, Tryd.func20, low20⟩ (tab_cons ⟨_, Tryd.func21, low21⟩ (tab_cons ⟨_, Tryd.func22, low22⟩ (tab_cons ⟨_, Tryd.func23, low23⟩ (tab_cons ⟨_, Tryd.func24, low24⟩ (tab_cons ⟨_, Tryd.func25, low25⟩ (tab_cons ⟨_, Tryd.func26, low26⟩ (tab_cons ⟨_, Tryd.func27, low27⟩ (tab_cons ⟨_, Tryd.func28, low28⟩ (tab_cons ⟨_, Tryd.func29, low29⟩ (tab_cons ⟨_, Tryd.func30, low30⟩ (tab_cons ⟨_, Tryd.func31, low31⟩ (tab_cons ⟨_, Tryd.func32, low32⟩ (tab_cons ⟨_, Tryd.func33, low33⟩ (tab_cons ⟨_, Tryd.func34, low34⟩ (tab_cons ⟨_, Tryd.func35, low35⟩ (tab_cons ⟨_, Tryd.func36, low36⟩ (tab_cons ⟨_, Tryd.func37, low37⟩ (tab_cons ⟨_, Tryd.func38, low38⟩ (tab_cons ⟨_, Tryd.func39, low39⟩ (tab_cons ⟨_, Tryd.func40, low40⟩ (tab_cons ⟨_, Tryd.func41, low41⟩ (tab_cons ⟨_, Tryd.func42, low42⟩ (tab_cons ⟨_, Tryd.func43, low43⟩ (tab_cons ⟨_, Tryd.func44, low44⟩ (tab_cons ⟨_, Tryd.func45, low45⟩ (tab_cons ⟨_, Tryd.func46, low46⟩ (tab_cons ⟨_, Tryd.func47, low47⟩ (tab_cons ⟨_, Tryd.func49, low49⟩ (tab_cons ⟨_, Tryd.func50, low50⟩ (tab_cons ⟨_, Tryd.func51, low51⟩ (tab_cons ⟨_, Tryd.func52, low52⟩ (tab_cons ⟨_, Tryd.func54, low54⟩ (tab_cons ⟨_, Tryd.func55, low55⟩ (tab_cons ⟨_, Tryd.func56, low56⟩ (tab_cons ⟨_, Tryd.func57, low57⟩ (tab_cons ⟨_, Tryd.func58, low58⟩ (tab_cons ⟨_, Tryd.func59, low59⟩ (tab_cons ⟨_, Tryd.func60, low60⟩ (tab_cons ⟨_, Tryd.func61, low61⟩ (tab_cons ⟨_, Tryd.func62, low62⟩ (tab_cons ⟨_, Tryd.func63, low63⟩ (tab_cons ⟨_, Tryd.func64, low64⟩ (tab_cons ⟨_, Tryd.func65, low65⟩ (tab_cons ⟨_, Tryd.func66, low66⟩ (tab_cons ⟨_, Tryd.func67, low67⟩ (tab_cons ⟨_, Tryd.func68, low68⟩ (tab_cons ⟨_, Tryd.func69, low69⟩ (tab_cons ⟨_, Tryd.func70, low70⟩ (tab_cons ⟨_, Tryd.func71, low71⟩ (tab_cons ⟨_, Tryd.func72, low72⟩ (tab_cons ⟨_, Tryd.func73, low73⟩ (tab_cons ⟨_, Tryd.func74, low74⟩ (tab_cons ⟨_, Tryd.func75, low75⟩ (tab_cons ⟨_, Tryd.func76, low76⟩ (tab_cons ⟨_, Tryd.func78, low78⟩ (tab_cons ⟨_, Tryd.func79, low79⟩ (tab_cons ⟨_, Tryd.func80, low80⟩ (tab_cons ⟨_, Tryd.func81, low81⟩ (tab_cons ⟨_, Tryd.func82, low82⟩ (tab_cons ⟨_, Tryd.func84, low84⟩ (tab_cons ⟨_, Tryd.func85, low85⟩ (tab_cons ⟨_, Tryd.func86, low86⟩ (tab_cons ⟨_, Tryd.func87, low87⟩ (tab_cons ⟨_, Tryd.func88, low88⟩ (tab_cons ⟨_, Tryd.func89, low89⟩ (tab_cons ⟨_, Tryd.func90, low90⟩ (tab_cons ⟨_, Tryd.func91, low91⟩ (tab_cons ⟨_, Tryd.func92, low92⟩ (tab_cons ⟨_, Tryd.func93, low93⟩ (tab_cons ⟨_, Tryd.func94, low94⟩ (tab_cons ⟨_, Tryd.func95, low95⟩ (tab_cons ⟨_, Tryd.func96, low96⟩ (tab_cons ⟨_, Tryd.func97, low97⟩ (tab_cons ⟨_, Tryd.func98, low98⟩ (tab_cons ⟨_, Tryd.func99, low99⟩ (tab_cons ⟨_, Tryd.func101, low101⟩ (tab_cons ⟨_, Tryd.func102, low102⟩ (tab_cons ⟨_, Tryd.func103, low103⟩ (tab_cons ⟨_, Tryd.func104, low104⟩ (tab_cons ⟨_, Tryd.func105, low105⟩ (tab_cons ⟨_, Tryd.func106, low106⟩ (tab_cons ⟨_, Tryd.func107, low107⟩ (tab_cons ⟨_, Tryd.func108, low108⟩ (tab_cons ⟨_, Tryd.func109, low109⟩ (tab_cons ⟨_, Tryd.func110, low110⟩ (tab_cons ⟨_, Tryd.func111, low111⟩ (tab_cons ⟨_, Tryd.func112, low112⟩ (tab_cons ⟨_, Tryd.func113, low113⟩ (tab_cons ⟨_, Tryd.func114, low114⟩ (tab_cons ⟨_, Tryd.func115, low115⟩ (tab_cons ⟨_, Tryd.func116, low116⟩ (tab_cons ⟨_, Tryd.func118, low118⟩ (tab_cons ⟨_, Tryd.func119, low119⟩ (tab_cons ⟨_, Tryd.func120, low120⟩ (tab_cons ⟨_, Tryd.func121, low121⟩ (tab_cons ⟨_, Tryd.func122, low122⟩ (tab_cons ⟨_, Tryd.func123, low123⟩ (tab_cons ⟨_, Tryd.func124, low124⟩ (tab_cons ⟨_, Tryd.func125, low125⟩ (tab_cons ⟨_, Tryd.func126, low126⟩ (tab_cons ⟨_, Tryd.func127, low127⟩ (tab_cons ⟨_, Tryd.func130, low130⟩ (tab_cons ⟨_, Tryd.func131, low131⟩ (tab_cons ⟨_, Tryd.func132, low132⟩ (tab_cons ⟨_, Tryd.func133, low133⟩ (tab_cons ⟨_, Tryd.func134, low134⟩ (tab_cons ⟨_, Tryd.func135, low135⟩ (tab_cons ⟨_, Tryd.func136, low136⟩ (tab_cons ⟨_, Tryd.func137, low137⟩ (tab_cons ⟨_, Tryd.func139, low139⟩ (tab_cons ⟨_, Tryd.func140, low140⟩ (tab_cons ⟨_, Tryd.func141, low141⟩ (tab_cons ⟨_, Tryd.func142, low142⟩ (tab_cons ⟨_, Tryd.func143, low143⟩ (tab_cons ⟨_, Tryd.func144, low144⟩ (tab_cons ⟨_, Tryd.func145, low145⟩ (tab_cons ⟨_, Tryd.func146, low146⟩ (tab_cons ⟨_, Tryd.func147, low147⟩ (tab_cons ⟨_, Tryd.func148, low148⟩ (tab_cons ⟨_, Tryd.func150, low150⟩ (tab_cons ⟨_, Tryd.func151, low151⟩ (tab_cons ⟨_, Tryd.func152, low152⟩ (tab_cons ⟨_, Tryd.func153, low153⟩ (tab_cons ⟨_, Tryd.func184, low184⟩ tab_nil))))))))))))))))))))))))))))))))))))))))))))))))))))))))))))))))))))))))))))))))))))))))))))))))))))))))))))))))))))))))))))))))))))))))))))
theorem ok13 : FnOk Tryd.prog tgl 13 [] (.bool true) := ev_ok (ext := extB) (tab := tabB) (fuel := 3000) (d := 40) extB_ok tabB_ok (by kernel_rfl)
open Classical in
noncomputable def c13 : List T → Ans
  | [] => .yes (.bool true)
  | _ => .no
theorem got13 {vs : List T} {x : T} (h : Got (c13 vs) x) : FnOk Tryd.prog tgl 13 vs x := by
  unfold c13 at h
  split at h
  · rw [got_yes h]; exact ok13
  · exact (got_no h).elim
theorem nogl13 (vs : List T) (p : Prop) (d : Decidable p) (sz : Nat) (xs : List T) (h : c13 vs = @Ans.gl p d sz xs) : False := by
  unfold c13 at h
  split at h <;> cases h
theorem pk13 (vs : List T) (p : Prop) (d : Decidable p) (x : T) (h : c13 vs = @Ans.pk p d x) (hp : p) : FnOk Tryd.prog tgl 13 vs x := by
  unfold c13 at h
  split at h <;> cases h
end Go.Nx
end
section
set_option linter.unusedVariables false
set_option linter.unusedSimpArgs false
set_option maxRecDepth 20000
set_option maxHeartbeats 4000000
namespace Go.Nx
open Go.RowKit Go.Proofs

noncomputable def lW3 : List (Nat × (List T → Ans)) := (14, c14) :: (16, c16) :: (13, c13) :: lW2
noncomputable def iW3 : List (Nat × Pt) := iW2
noncomputable abbrev W3 : Env := En tgl lW3 iW3
theorem env_W3 : EnvOk Tryd.prog W3 := (env_fn (env_fn (env_fn env_W2 (fun _ _ => got13) (fun vs p d sz xs h _ => (nogl13 vs p d sz xs h).elim) pk13) (fun _ _ => got16) (fun vs p d sz xs h _ => (nogl16 vs p d sz xs h).elim) pk16) (fun _ _ => got14) (fun vs p d sz xs h _ => (nogl14 vs p d sz xs h).elim) pk14)
theorem once_ls (s : B) : onceS (lsL s) = (iv s, true) := by
  unfold onceS
  rw [ofL_lsL, if_pos rfl]
theorem once_two (s : B) (o : Int) : (onceS (srt (lsL s ++ [o]))).2 = (obj o && !has s o) := by
  have h := once_iff (srt (lsL s ++ [o]))
  have hp := srt_perm (lsL s ++ [o])
  have h1 : (srt (lsL s ++ [o])).Nodup ↔ has s o = false := by
    rw [hp.nodup_iff, List.nodup_append]
    constructor
    · rintro ⟨_, _, h3⟩
      rw [Bool.eq_false_iff]; intro h; exact h3 o (mem_lsL.2 h) o (by simp) rfl
    · intro h
      refine ⟨lsL_nodup s, by simp, fun a ha b hb => ?_⟩
      rw [List.mem_singleton] at hb; subst hb
      rintro rfl
      rw [mem_lsL.1 ha] at h; cases h
  have h2 : (∀ x ∈ srt (lsL s ++ [o]), obj x = true) ↔ obj o = true := by
    constructor
    · intro h; exact h o (srt_mem.2 (by simp))
    · intro h x hx
      rw [srt_mem, List.mem_append, List.mem_singleton] at hx
      rcases hx with hx | rfl
      · have := has_range (mem_lsL.1 hx); exact obj_t this.1 this.2
      · exact h
  rw [h1, h2] at h
  unfold onceS
  by_cases e : (lsL (ofL (srt (lsL s ++ [o])))).length = (srt (lsL s ++ [o])).length
  · rw [if_pos e]
    obtain ⟨a, b⟩ := h.1 e
    rw [a, b]; rfl
  · rw [if_neg e]
    cases hb : obj o with
    | false => rfl
    | true =>
      cases ha : has s o with
      | true => rfl
      | false => exact absurd (h.2 ⟨ha, hb⟩) e
theorem ok4 (s o : Int) (hq : R64 s ∧ I64 o) : FnOk Tryd.prog tgl 4 [.int .u64 s, .int .i64 o] (.bool true) := by
  refine fn_ok (Γ := W3) env_W3 Tryd.func4 low4 ?_
  obtain ⟨hs, ho⟩ := hq
  obtain ⟨l, hl⟩ : ∃ l, l = lsL (bv s) := ⟨_, rfl⟩
  have hlen : l.length ≤ 64 := by rw [hl]; exact lsL_len _
  have hI : ∀ n ∈ l, I64 n := fun n hn => by rw [hl] at hn; have := has_range (mem_lsL.1 hn); exact ⟨by omega, by omega⟩
  have hq1 : IsI (is l) ∧ SzB (is l) := ⟨isI_is hI, by unfold SzB maxBytes; rw [is_len]; omega⟩
  have e0 : nums (subL (is (lsL (bv s))) 0 none) = lsL (bv s) := by rw [subL_00, nums_is]
  have e1 : onceS (nums (subL (is (lsL (bv s))) 0 none)) = (s, true) := by rw [e0, once_ls, iv_bv hs]
  have e3 : nums [T.int .i64 o] = [o] := rfl
  have hIs : ∀ n ∈ srt (l ++ [o]), I64 n := fun n hn => by
    rw [srt_mem, List.mem_append, List.mem_singleton] at hn
    rcases hn with h | rfl
    · exact hI n h
    · exact ho
  have e2 : (onceS (nums (is (srt (nums (subL (is (lsL (bv s))) 0 none) ++ nums [T.int .i64 o]))))).2 = (obj o && !has (bv s) o) := by
    rw [e0, e3, nums_is, once_two]
  conv => whnf
  repeat' (first
    | (refine brK_true rfl ?_; conv => whnf)
    | (refine brK_false rfl ?_; conv => whnf)
    | (refine brK_true (by assumption) ?_; conv => whnf)
    | (refine brK_false (by assumption) ?_; conv => whnf)
    | (refine brK_true ?_ ?_; (focus (simp only [List.length_nil, fx, e1, eqI_self] <;> omega)); conv => whnf)
    | (refine brK_false ?_ ?_; (focus (simp only [List.length_nil, fx, e1, eqI_self] <;> omega)); conv => whnf)
    | ((refine brK_of (fun h => ?_) (fun h => ?_)) <;> (have h2 := h; (try simp only [List.length_nil, fx, e1, eqI_self] at h2); conv => whnf))
    | (refine reqK_of ?_ ?_; (focus (first | decide | omega | assumption | (simp only [List.length_nil, fx, e1, eqI_self] <;> omega) | (simp [keyNew, sameKey, kEq] <;> omega))); conv => whnf)
    | (refine reqK_of ?_ ?_; rotate_left; (conv => whnf); rotate_left)
    | (refine nth_us ?_ ?_ ?_; (focus (first | omega | (simp only [List.length_nil, fx, e1, eqI_self] <;> omega))); (focus (first | omega | (simp only [List.length_nil, fx, e1, eqI_self] <;> omega))); conv => whnf)
    | (refine nth_is ?_ ?_ ?_; (focus (first | omega | (simp only [List.length_nil, fx, e1, eqI_self] <;> omega))); (focus (first | omega | (simp only [List.length_nil, fx, e1, eqI_self] <;> omega))); conv => whnf)
    | (refine nth_bs ?_ ?_ ?_; (focus (first | omega | (simp only [List.length_nil, fx, e1, eqI_self] <;> omega))); (focus (first | omega | (simp only [List.length_nil, fx, e1, eqI_self] <;> omega))); conv => whnf))
  · rw [subL_00, ← hl]; exact hq1
  · rw [subL_00, ← hl, is_len]
    refine ⟨⟨isI_is hI, ⟨[o], rfl, fun n hn => by rw [List.mem_singleton] at hn; subst hn; exact ho⟩⟩, ?_⟩
    unfold maxBytes; simp only [List.length_singleton]; omega
  · rw [e0, e3, ← hl]
    refine ⟨isI_is hIs, ?_⟩
    unfold SzB maxBytes; rw [is_len, srt_len, List.length_append]; simp only [List.length_singleton]; omega
  · rw [e2, obj_t (by assumption) (by assumption), eqB_def]; cases has (bv s) o <;> rfl
  · rw [e2, obj_f (.inr (by assumption)), eqB_def]; rfl
  · rw [e2, obj_f (.inl (by assumption)), eqB_def]; rfl
open Classical in
noncomputable def c4 : List T → Ans
  | [.int .u64 s, .int .i64 o] => .req (R64 s ∧ I64 o) (.bool true)
  | _ => .no
theorem got4 {vs : List T} {x : T} (h : Got (c4 vs) x) : FnOk Tryd.prog tgl 4 vs x := by
  unfold c4 at h
  split at h
  · obtain ⟨hq, e⟩ := got_req h; rw [e]; exact ok4 _ _ hq
  · exact (got_no h).elim
theorem nogl4 (vs : List T) (p : Prop) (d : Decidable p) (sz : Nat) (xs : List T) (h : c4 vs = @Ans.gl p d sz xs) : False := by
  unfold c4 at h
  split at h <;> cases h
theorem pk4 (vs : List T) (p : Prop) (d : Decidable p) (x : T) (h : c4 vs = @Ans.pk p d x) (hp : p) : FnOk Tryd.prog tgl 4 vs x := by
  unfold c4 at h
  split at h
  · cases h
  · cases h
end Go.Nx
end
