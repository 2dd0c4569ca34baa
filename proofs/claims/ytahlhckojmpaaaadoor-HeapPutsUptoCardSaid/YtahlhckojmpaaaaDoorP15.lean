/-
  A part of the machine, and of what is walked.
-/
import Derived.Test.YtahlhckojmpaaaaDoorP14
import Derived.RangeFuncCalls
import Derived.Shelf.RegionOpen
import Derived.WalkKit
import Derived.OwnWalkIn
import Derived.TacticsInMore
import Derived.LoopNIn
import Derived.LoopIn
import Derived.Maps.AppendAt
import Derived.Shelf.Abstract
import Derived.Laws.IdiomStrings
section
set_option linter.unusedVariables false
set_option linter.unusedSimpArgs false
namespace Go.Nx
open Go Go.RowKit Go.Shelf Go.Proofs

attribute [local go_sem] Oper.semAt_some
theorem dig1 : ∀ k : Nat, k < 10 → dig (k : Int) = ⟨#[(48 + k).toUInt8]⟩ := by decide +kernel
theorem dig2 : ∀ k : Nat, k < 100 → 9 < k → dig (k : Int) = ⟨#[(48 + k / 10).toUInt8, (48 + k % 10).toUInt8]⟩ := by decide +kernel
theorem conv1 (W : World) (x : Int) (c : UInt8) (hx : x = (c.toNat : Int)) : Sem.run Tryd.prog (convert 46 9 (.slice (some ⟨W.heap.size, 0, none⟩) 1 1)) (W.alloc (.cells #[.int .u8 x] 5)) = .ok (.string ⟨#[c]⟩) (W.alloc (.cells #[.int .u8 x] 5)) := by
  subst hx
  refine run_convert_bytes_back _ 46 9 5 ⟨W.heap.size, 0, none⟩ 1 [c] Tryd.underlying46 Tryd.underlying5 Tryd.underlying9 fun j hj => ?_
  obtain rfl : j = 0 := by simp at hj; omega
  exact cell_one_new W (.int .u8 (c.toNat : Int)) 5 0 _ rfl
theorem byte_add {k : Nat} (h : k < 10) : 48 + UInt8.ofNat k = (48 + k).toUInt8 := by
  have : ∀ k : Nat, k < 10 → 48 + UInt8.ofNat k = (48 + k).toUInt8 := by decide +kernel
  exact this k h
theorem chr {k : Nat} (h : k < 10) : (48 + k : Int) = (((48 + k).toUInt8).toNat : Int) := by
  have : ∀ k : Nat, k < 10 → (48 + k : Int) = (((48 + k).toUInt8).toNat : Int) := by decide +kernel
  exact this k h
set_option maxRecDepth 100000 in
set_option maxHeartbeats 1000000 in
theorem Digits_in (d : Nat) (n : Nat) (h : n < 100) (w : World) :
    CallsIn Fence.wide d Tryd.prog 73 #[.int .u64 n] w fun e w' => e = .returned (.string (dig n)) ∧ Below w.heap.size w w' := by
  refine callsIn_of_wp Tryd.func73 rfl trivial ?_ rfl
  simp only [Tryd.ntmps73, List.size_toArray, List.length_cons, List.length_nil, Nat.reduceAdd, Nat.reduceSub, Array.replicate_succ, Array.replicate_zero, List.push_toArray, List.append_toArray, List.nil_append, List.cons_append]
  gi_wp2
  gi_loopw [0, 3] (fun a b wr => ∃ (m : Nat) (s : ByteArray), a = .int .u64 (m : Int) ∧ b = .string s ∧ m < 100 ∧ Below w.heap.size w wr ∧ (s = ⟨#[]⟩ ∧ m = n ∨ 9 < n ∧ m = n / 10 ∧ s = ⟨#[(48 + n % 10).toUInt8]⟩)) (fun a _ _ => match a with | .int _ m => m.toNat | _ => 0)
  case atStart =>
    exact ⟨n, ⟨#[]⟩, rfl, rfl, h, Below.refl _ _, .inl ⟨rfl, rfl⟩⟩
  case round =>
    obtain ⟨m, s, rfl, rfl, h2, hb, hs⟩ := hrel
    by_cases h9 : 9 < (m : Int)
    · obtain ⟨rfl, rfl⟩ : s = ⟨#[]⟩ ∧ m = n := by
        rcases hs with hs | ⟨_, hs, _⟩
        · exact hs
        · omega
      have hcv := conv1 wr (48 + (m : Int) % 10) ((48 + m % 10).toUInt8) (by have := chr (k := m % 10) (by omega); omega)
      gi_wp2
      refine ⟨⟨m / 10, ⟨#[(48 + m % 10).toUInt8]⟩, by rw [Int.natCast_ediv]; rfl, by rw [byte_add (by omega)]; rfl, by omega, hb.trans ((Below.refl _ wr).alloc hb.size _), .inr ⟨by omega, rfl, rfl⟩⟩, ?_⟩
      show ((m : Int) / 10).toNat < ((m : Int)).toNat
      omega
    · have hcv := conv1 wr (48 + (m : Int)) ((48 + m).toUInt8) (chr (by omega))
      rcases hs with ⟨rfl, rfl⟩ | ⟨h10, hm, rfl⟩
      · gi_wp2
        go_ret
        refine ⟨?_, hb.trans ((Below.refl _ wr).alloc hb.size _)⟩
        rw [dig1 m (by omega), ← byte_add (by omega)]
        rfl
      · have hm' := hm.symm
        clear hm
        gi_wp2
        go_ret
        refine ⟨?_, hb.trans ((Below.refl _ wr).alloc hb.size _)⟩
        rw [dig2 n h h10, ← byte_add (k := n % 10) (by omega), ← byte_add (k := n / 10) (by omega), hm']
        rfl
end Go.Nx
end
section
set_option linter.unusedVariables false
set_option linter.unusedSimpArgs false
set_option maxRecDepth 20000
set_option maxHeartbeats 4000000
namespace Go.Nx
open Go Go.RowKit Go.Proofs

theorem ok73 (n : Int) (hq : 0 ≤ n ∧ n < 100) : FnOk Tryd.prog tgl 73 [.int .u64 n] (.str (dig n)) := by
  obtain ⟨k, rfl⟩ : ∃ k : Nat, n = k := ⟨n.toNat, by omega⟩
  refine ⟨⟨_, Tryd.func73, rfl, by decide⟩, fun S w args hS hgl hsz hrel => ?_⟩
  have hz : args.size = 1 := hsz
  obtain rfl : args = #[.int .u64 (k : Int)] := one_arg hz (by rw [Array.getElem?_eq_getElem (by omega)]; exact congrArg some (RelT.int_of (hrel 0 _ (args[0]'(by omega)) rfl (by simp))))
  refine ((callsIn_wide (n := 3)).1 (Digits_in 3 k (by omega) w)).mono ?_
  rintro e W' ⟨rfl, hb⟩
  exact ⟨_, rfl, .str _, hb⟩
open Classical in
noncomputable def c73 : List T → Ans
  | [.int .u64 n] => .req (0 ≤ n ∧ n < 100) (.str (dig n))
  | _ => .no
theorem got73 {vs : List T} {x : T} (h : Got (c73 vs) x) : FnOk Tryd.prog tgl 73 vs x := by
  unfold c73 at h
  split at h
  · obtain ⟨hq, e⟩ := got_req h; rw [e]; exact ok73 _ hq
  · exact (got_no h).elim
theorem nogl73 (vs : List T) (p : Prop) (d : Decidable p) (sz : Nat) (xs : List T) (h : c73 vs = @Ans.gl p d sz xs) : False := by
  unfold c73 at h
  split at h <;> cases h
theorem pk73 (vs : List T) (p : Prop) (d : Decidable p) (x : T) (h : c73 vs = @Ans.pk p d x) (hp : p) : FnOk Tryd.prog tgl 73 vs x := by
  unfold c73 at h
  split at h
  · cases h
  · cases h
noncomputable def lH14 : List (Nat × (List T → Ans)) := (73, c73) :: lH13
noncomputable def iH14 : List (Nat × Pt) := iH13
noncomputable abbrev H14 : Env := En tgl lH14 iH14
theorem env_H14 : EnvOk Tryd.prog H14 := (env_fn env_H13 (fun _ _ => got73) (fun vs p d sz xs h _ => (nogl73 vs p d sz xs h).elim) pk73)
def rPre (l : List Int) (j : Nat) : List UInt8 := hRow (l.take j)
theorem rPre_1 {l : List Int} (h : 0 < l.length) : rPre l 1 = (dig (at0 l 0)).data.toList := by
  cases l with
  | nil => simp at h
  | cons x r => simp [rPre, hRow, jn, at0]
theorem jn_snoc (c : UInt8) : ∀ (l : List (List UInt8)) (x : List UInt8), l ≠ [] → jn c (l ++ [x]) = jn c l ++ c :: x
  | [], x, h => absurd rfl h
  | [y], x, h => rfl
  | y :: z :: r, x, h => by
    have ih := jn_snoc c (z :: r) x (by simp)
    rw [List.cons_append, jn_cons c y (by simp), ih, jn_cons c y (by simp)]
    simp
theorem rPre_succ {l : List Int} {j : Nat} (h : j < l.length) (h0 : 0 < j) : rPre l (j + 1) = rPre l j ++ 44 :: (dig (at0 l (j : Int))).data.toList := by
  unfold rPre hRow
  have e : l[j]? = some (at0 l (j : Int)) := by simp [at0, h]
  rw [List.take_add_one, e, Option.toList_some, List.map_append, List.map_cons, List.map_nil, jn_snoc]
  intro e; have := congrArg List.length e; rw [List.length_map, List.length_take, List.length_nil] at this; omega
def tPre (n : Int) (L : List (List Int)) (k j : Nat) : ByteArray := ⟨((hPre n L k).data.toList ++ 124 :: rPre (row L ((k : Int) + 1)) j).toArray⟩
theorem tPre_size {n : Int} {L : List (List Int)} (hn : 0 ≤ n ∧ n ≤ 64) (h : ∀ l ∈ L, l.length ≤ 4 ∧ ∀ v ∈ l, 0 ≤ v ∧ v ≤ 64) {k : Nat} (hk : k < L.length) (j : Nat) : (tPre n L k j).size ≤ 20 + L.length * 13 := by
  have h1 := hPre_size hn h k
  have hm : row L ((k : Int) + 1) ∈ L := by rw [row_at hk]; exact List.getElem_mem _
  have h2 := hRow_len (l := (row L ((k : Int) + 1)).take j) fun v hv => (h _ hm).2 v (List.mem_of_mem_take hv)
  have h3 := (h _ hm).1
  have h4 : (hPre n L k).data.toList.length = (hPre n L k).size := by rw [Array.length_toList]; rfl
  show (List.toArray _).size ≤ _
  rw [List.size_toArray, List.length_append, List.length_cons, h4]
  unfold rPre
  rw [List.length_take] at h2
  omega
theorem tPre_0 (n : Int) (L : List (List Int)) (k : Nat) : hPre n L k ++ (⟨#[124]⟩ : ByteArray) = tPre n L k 0 := by
  apply ba_ext
  rw [ByteArray.data_append, Array.toList_append]
  rfl
theorem tPre_1 {n : Int} {L : List (List Int)} {k : Nat} (h : 0 < (row L ((k : Int) + 1)).length) : tPre n L k 0 ++ dig (at0 (row L ((k : Int) + 1)) 0) = tPre n L k 1 := by
  apply ba_ext
  rw [ByteArray.data_append, Array.toList_append]
  unfold tPre
  rw [rPre_1 h]
  show ((hPre n L k).data.toList ++ 124 :: []) ++ (dig _).data.toList = (hPre n L k).data.toList ++ 124 :: (dig _).data.toList
  rw [List.append_assoc]; rfl
theorem tPre_succ {n : Int} {L : List (List Int)} {k j : Nat} (h : j < (row L ((k : Int) + 1)).length) (h0 : 0 < j) : tPre n L k j ++ (⟨#[44]⟩ : ByteArray) ++ dig (at0 (row L ((k : Int) + 1)) (j : Int)) = tPre n L k (j + 1) := by
  apply ba_ext
  rw [ByteArray.data_append, Array.toList_append, ByteArray.data_append, Array.toList_append]
  unfold tPre
  rw [rPre_succ h h0]
  show (((hPre n L k).data.toList ++ 124 :: rPre _ j) ++ [44]) ++ (dig _).data.toList = (hPre n L k).data.toList ++ 124 :: (rPre _ j ++ 44 :: (dig _).data.toList)
  simp only [List.append_assoc, List.cons_append, List.nil_append]
theorem tPre_all {n : Int} {L : List (List Int)} {k j : Nat} (hk : k < L.length) (h : (row L ((k : Int) + 1)).length ≤ j) : tPre n L k j = hPre n L (k + 1) := by
  rw [← hPre_succ hk]
  apply ba_ext
  rw [ByteArray.data_append, ByteArray.data_append, Array.toList_append, Array.toList_append]
  unfold tPre rPre
  rw [List.take_of_length_le h]; rfl
theorem ok47 (n : Int) (xs : List T) (hq : IsH xs) : FnOk Tryd.prog tgl 47 [.agg [.int .i64 n, .list 1 xs]] (.str (hTxt n (rowsOf xs))) := by
  refine fn_ok (Γ := H14) env_H14 Tryd.func47 low47 ?_
  obtain ⟨L, rfl, hl, hL⟩ := hq
  have hq1 : IsH (rs L) := ⟨L, rfl, hl, hL⟩
  rw [rowsOf_rs]
  cases hr : hRight n L
  · have hr' : hRight n (rowsOf (rs L)) = false := by rw [rowsOf_rs]; exact hr
    conv => whnf
    repeat' (first
      | (refine brK_true rfl ?_; conv => whnf)
      | (refine brK_false rfl ?_; conv => whnf)
      | (refine brK_true (by assumption) ?_; conv => whnf)
      | (refine brK_false (by assumption) ?_; conv => whnf)
      | (refine brK_true ?_ ?_; (focus (simp only [List.length_nil, fx, rs_len, hr'] <;> omega)); conv => whnf)
      | (refine brK_false ?_ ?_; (focus (simp only [List.length_nil, fx, rs_len, hr'] <;> omega)); conv => whnf)
      | ((refine brK_of (fun h => ?_) (fun h => ?_)) <;> (have h2 := h; (try simp only [List.length_nil, fx, rs_len, hr'] at h2); conv => whnf))
      | (refine reqK_of ?_ ?_; (focus (first | decide | omega | assumption | (simp only [List.length_nil, fx, rs_len, hr'] <;> omega) | (simp [keyNew, sameKey, kEq] <;> omega))); conv => whnf)
      | (refine reqK_of ?_ ?_; rotate_left; (conv => whnf); rotate_left)
      | (refine nth_us ?_ ?_ ?_; (focus (first | omega | (simp only [List.length_nil, fx, rs_len, hr'] <;> omega))); (focus (first | omega | (simp only [List.length_nil, fx, rs_len, hr'] <;> omega))); conv => whnf)
      | (refine nth_is ?_ ?_ ?_; (focus (first | omega | (simp only [List.length_nil, fx, rs_len, hr'] <;> omega))); (focus (first | omega | (simp only [List.length_nil, fx, rs_len, hr'] <;> omega))); conv => whnf)
      | (refine nth_bs ?_ ?_ ?_; (focus (first | omega | (simp only [List.length_nil, fx, rs_len, hr'] <;> omega))); (focus (first | omega | (simp only [List.length_nil, fx, rs_len, hr'] <;> omega))); conv => whnf))
    unfold hTxt; rw [if_neg (by rw [hr]; decide)]
  · have hr' : hRight n (rowsOf (rs L)) = true := by rw [rowsOf_rs]; exact hr
    obtain ⟨⟨h1, h2⟩, h3⟩ := right_le hr
    obtain ⟨⟨_, _, h64⟩, h4⟩ := hRight_iff.1 hr
    have hwn : IntKind.u64.wrap n = n := wrap_u64 (by unfold R64; omega)
    conv => whnf
    repeat' (first
      | (refine brK_true rfl ?_; conv => whnf)
      | (refine brK_false rfl ?_; conv => whnf)
      | (refine brK_true (by assumption) ?_; conv => whnf)
      | (refine brK_false (by assumption) ?_; conv => whnf)
      | (refine brK_true ?_ ?_; (focus (simp only [List.length_nil, fx, rs_len, hr', hwn] <;> omega)); conv => whnf)
      | (refine brK_false ?_ ?_; (focus (simp only [List.length_nil, fx, rs_len, hr', hwn] <;> omega)); conv => whnf)
      | ((refine brK_of (fun h => ?_) (fun h => ?_)) <;> (have h2 := h; (try simp only [List.length_nil, fx, rs_len, hr', hwn] at h2); conv => whnf))
      | (refine reqK_of ?_ ?_; (focus (first | decide | omega | assumption | (simp only [List.length_nil, fx, rs_len, hr', hwn] <;> omega) | (simp [keyNew, sameKey, kEq] <;> omega))); conv => whnf)
      | (refine reqK_of ?_ ?_; rotate_left; (conv => whnf); rotate_left)
      | (refine nth_us ?_ ?_ ?_; (focus (first | omega | (simp only [List.length_nil, fx, rs_len, hr', hwn] <;> omega))); (focus (first | omega | (simp only [List.length_nil, fx, rs_len, hr', hwn] <;> omega))); conv => whnf)
      | (refine nth_is ?_ ?_ ?_; (focus (first | omega | (simp only [List.length_nil, fx, rs_len, hr', hwn] <;> omega))); (focus (first | omega | (simp only [List.length_nil, fx, rs_len, hr', hwn] <;> omega))); conv => whnf)
      | (refine nth_bs ?_ ?_ ?_; (focus (first | omega | (simp only [List.length_nil, fx, rs_len, hr', hwn] <;> omega))); (focus (first | omega | (simp only [List.length_nil, fx, rs_len, hr', hwn] <;> omega))); conv => whnf))
    refine loopUp [] [.kill 5, .kill 13, .kill 14, .kill 15, .kill 16, .kill 17, .kill 18, .kill 19, .kill 20, .kill 21, .kill 22, .kill 23, .kill 24, .kill 25, .kill 26, .kill 27, .kill 28, .kill 29, .kill 30, .kill 31, .kill 32, .kill 33, .kill 34, .kill 35, .kill 36, .kill 37, .kill 38, .kill 39, .kill 40, .kill 41, .kill 42, .kill 43, .kill 44, .kill 45, .kill 46, .kill 47] (fun k : Nat => [(3, .t (.str (hPre n L k))), (4, .t (.int .i64 (k : Int)))]) (fun _ => []) (fun k => k ≤ L.length) (fun k => L.length - k) 0 (Nat.zero_le _) ?_
    conv => whnf
    refine ⟨⟨by rw [hPre_0, hwn]; rfl, rfl⟩, fun k hk C hC => ?_⟩
    have hw : IntKind.i64.wrap ((k : Int) + 1) = (k : Int) + 1 := wrap_i64 ⟨by omega, by omega⟩
    have hps := hPre_size (n := n) (L := L) ⟨by omega, by omega⟩ (fun l hl => ⟨by have := (h4 l hl).1; omega, (h3 l hl).2⟩) k
    have e1 : (⟨#[124]⟩ : ByteArray).size = 1 := rfl
    have e2 : (⟨#[44]⟩ : ByteArray).size = 1 := rfl
    conv => whnf
    repeat' (first
      | (refine brK_true rfl ?_; conv => whnf)
      | (refine brK_false rfl ?_; conv => whnf)
      | (refine brK_true (by assumption) ?_; conv => whnf)
      | (refine brK_false (by assumption) ?_; conv => whnf)
      | (refine brK_true ?_ ?_; (focus (simp only [List.length_nil, fx, rs_len] <;> omega)); conv => whnf)
      | (refine brK_false ?_ ?_; (focus (simp only [List.length_nil, fx, rs_len] <;> omega)); conv => whnf)
      | ((refine brK_of (fun h => ?_) (fun h => ?_)) <;> (have h2 := h; (try simp only [List.length_nil, fx, rs_len] at h2); conv => whnf))
      | (refine reqK_of ?_ ?_; (focus (first | decide | omega | assumption | (simp only [List.length_nil, fx, rs_len] <;> omega) | (simp [keyNew, sameKey, kEq] <;> omega))); conv => whnf)
      | (refine reqK_of ?_ ?_; rotate_left; (conv => whnf); rotate_left)
      | (refine nth_rs ?_ ?_ ?_; (focus (first | omega | (simp only [List.length_nil, fx, rs_len] <;> omega))); (focus (first | omega | (simp only [List.length_nil, fx, rs_len] <;> omega))); conv => whnf)
      | (refine nth_us ?_ ?_ ?_; (focus (first | omega | (simp only [List.length_nil, fx, rs_len] <;> omega))); (focus (first | omega | (simp only [List.length_nil, fx, rs_len] <;> omega))); conv => whnf)
      | (refine nth_is ?_ ?_ ?_; (focus (first | omega | (simp only [List.length_nil, fx, rs_len] <;> omega))); (focus (first | omega | (simp only [List.length_nil, fx, rs_len] <;> omega))); conv => whnf)
      | (refine nth_bs ?_ ?_ ?_; (focus (first | omega | (simp only [List.length_nil, fx, rs_len] <;> omega))); (focus (first | omega | (simp only [List.length_nil, fx, rs_len] <;> omega))); conv => whnf))
    · have hm : row L ((k : Int) + 1) ∈ L := by rw [row_at (by omega)]; exact List.getElem_mem _
      have hv := (h3 _ hm).2
      have hln := (h4 _ hm).1
      refine loopUp [] [.kill 22, .kill 23, .kill 24, .kill 25, .kill 26, .kill 27, .kill 28, .kill 29, .kill 30, .kill 31, .kill 32, .kill 33, .kill 34, .kill 35, .kill 36, .kill 37, .kill 38, .kill 39, .kill 40, .kill 41, .kill 42, .kill 43, .kill 44, .kill 45, .kill 46, .kill 47] (fun j : Nat => [(3, .t (.str (tPre n L k j))), (5, .t (.int .i64 (j : Int)))]) (fun _ => []) (fun j => j ≤ (row L ((k : Int) + 1)).length) (fun j => (row L ((k : Int) + 1)).length - j) 0 (Nat.zero_le _) ?_
      conv => whnf
      refine ⟨⟨by rw [← tPre_0]; rfl, rfl⟩, fun j hj C' hC' => ?_⟩
      have hwj : IntKind.i64.wrap ((j : Int) + 1) = (j : Int) + 1 := wrap_i64 ⟨by omega, by omega⟩
      have hts := tPre_size (n := n) (L := L) ⟨by omega, by omega⟩ (fun l hl => ⟨by have := (h4 l hl).1; omega, (h3 l hl).2⟩) (k := k) (by omega) j
      have hx : j < (row L ((k : Int) + 1)).length → 0 ≤ at0 (row L ((k : Int) + 1)) (j : Int) ∧ at0 (row L ((k : Int) + 1)) (j : Int) ≤ 64 := fun h => hv _ (at0_mem (by simpa using h))
      have hwx : j < (row L ((k : Int) + 1)).length → IntKind.u64.wrap (at0 (row L ((k : Int) + 1)) (j : Int)) = at0 (row L ((k : Int) + 1)) (j : Int) := fun h => wrap_u64 (by have := hx h; unfold R64; omega)
      have hds : j < (row L ((k : Int) + 1)).length → (dig (at0 (row L ((k : Int) + 1)) (j : Int))).size ≤ 2 := fun h => by
        have := dig_len (hx h)
        show (dig _).data.size ≤ 2
        rw [← Array.length_toList]; exact this
      conv => whnf
      repeat' (first
        | (refine brK_true rfl ?_; conv => whnf)
        | (refine brK_false rfl ?_; conv => whnf)
        | (refine brK_true (by assumption) ?_; conv => whnf)
        | (refine brK_false (by assumption) ?_; conv => whnf)
        | (refine brK_true ?_ ?_; (focus (simp only [List.length_nil, fx, rs_len] <;> omega)); conv => whnf)
        | (refine brK_false ?_ ?_; (focus (simp only [List.length_nil, fx, rs_len] <;> omega)); conv => whnf)
        | ((refine brK_of (fun h => ?_) (fun h => ?_)) <;> (have h2 := h; (try simp only [List.length_nil, fx, rs_len] at h2); conv => whnf))
        | (refine reqK_of ?_ ?_; (focus (first | decide | omega | assumption | (simp only [List.length_nil, fx, rs_len] <;> omega) | (simp [keyNew, sameKey, kEq] <;> omega))); conv => whnf)
        | (refine reqK_of ?_ ?_; rotate_left; (conv => whnf); rotate_left)
        | (refine nth_rs ?_ ?_ ?_; (focus (first | omega | (simp only [List.length_nil, fx, rs_len] <;> omega))); (focus (first | omega | (simp only [List.length_nil, fx, rs_len] <;> omega))); conv => whnf)
        | (refine nth_us ?_ ?_ ?_; (focus (first | omega | (simp only [List.length_nil, fx, rs_len] <;> omega))); (focus (first | omega | (simp only [List.length_nil, fx, rs_len] <;> omega))); conv => whnf)
        | (refine nth_is ?_ ?_ ?_; (focus (first | omega | (simp only [List.length_nil, fx, rs_len] <;> omega))); (focus (first | omega | (simp only [List.length_nil, fx, rs_len] <;> omega))); conv => whnf)
        | (refine nth_bs ?_ ?_ ?_; (focus (first | omega | (simp only [List.length_nil, fx, rs_len] <;> omega))); (focus (first | omega | (simp only [List.length_nil, fx, rs_len] <;> omega))); conv => whnf))
      · rw [hwx (by omega), ByteArray.size_append, e2]; have := hds (by omega); omega
      · refine loopC (hC' (j + 1) (by omega) (by omega)) ?_
        rw [hwx (by omega), tPre_succ (by omega) (by omega), hwj, Int.natCast_succ]
        rfl
      · rw [hwx (by omega)]; have := hds (by omega); omega
      · obtain rfl : j = 0 := by omega
        refine loopC (hC' 1 (by omega) (by omega)) ?_
        rw [hwx (by omega), show (((0 : Nat)) : Int) = 0 from rfl, tPre_1 (by omega)]
        rfl
      · refine loopC (hC (k + 1) (by omega) (by omega)) ?_
        rw [tPre_all (by omega) (by omega), hw, Int.natCast_succ]
        rfl
    · rw [show k = L.length by omega, hPre_all hr]
open Classical in
noncomputable def c47 : List T → Ans
  | [.agg [.int .i64 n, .list 1 xs]] => .req (IsH xs) (.str (hTxt n (rowsOf xs)))
  | _ => .no
theorem got47 {vs : List T} {x : T} (h : Got (c47 vs) x) : FnOk Tryd.prog tgl 47 vs x := by
  unfold c47 at h
  split at h
  · obtain ⟨hq, e⟩ := got_req h; rw [e]; exact ok47 _ _ hq
  · exact (got_no h).elim
theorem nogl47 (vs : List T) (p : Prop) (d : Decidable p) (sz : Nat) (xs : List T) (h : c47 vs = @Ans.gl p d sz xs) : False := by
  unfold c47 at h
  split at h <;> cases h
theorem pk47 (vs : List T) (p : Prop) (d : Decidable p) (x : T) (h : c47 vs = @Ans.pk p d x) (hp : p) : FnOk Tryd.prog tgl 47 vs x := by
  unfold c47 at h
  split at h
  · cases h
  · cases h
end Go.Nx
end
