/-
  DEQUES: IN THE ORDER IN WHICH THEY WERE PUSHED: walked.
-/
import Derived.Test.YtommbfigioeghaaGy
import Derived.Test.YtommbfigioeghaaBl
set_option linter.unusedVariables false
set_option linter.unusedSimpArgs false
set_option maxRecDepth 100000
set_option maxHeartbeats 16000000
namespace Go.Nx
open Go.RowKit Go.Proofs

theorem q_A {q : Qs} {y : Int} (h3 : ¬ y % 5 < 3) : (nextQ q y).lst = q.lst := by
  show lastQ q.w q.lst y = q.lst
  unfold lastQ; rw [if_neg (fun g => h3 g.1)]
theorem q_B {q : Qs} {y : Int} (h3 : y % 5 < 3) (ho : (dstep q.w.m (dAt q.w.thief (y % 5).toNat)).2.out ≠ 1) : (nextQ q y).w.got = q.w.got ∧ (nextQ q y).b = q.b ∧ (nextQ q y).lst = q.lst := by
  refine ⟨?_, ?_, ?_⟩
  · show (stepQ q.w y).got = _
    unfold stepQ; rw [if_pos h3]
    simp only [stealQ, if_neg ho]
  · show nilB q.w q.b y = q.b
    unfold nilB; rw [if_pos h3, decide_eq_true ho, Bool.and_true]
  · show lastQ q.w q.lst y = q.lst
    unfold lastQ; rw [if_neg (fun g => ho g.2)]
theorem q_C {c : Int} {q : Qs} {n : Nat} {t b : Int} {s : List Int} {E : Int} {H : List Int} (h : QI c q.w q.a q.b n q.lst t b s E H) (hn : n ≤ 900) {y : Int} (hy : 0 ≤ y) (h3 : y % 5 < 3) (ho : (dstep q.w.m (dAt q.w.thief (y % 5).toNat)).2.out = 1) :
    (nextQ q y).w.got = addB q.w.got (nextQ q y).lst 1 ∧ (nextQ q y).b = false ∧ q.lst < (nextQ q y).lst := by
  obtain ⟨t', lst', hq, hl⟩ := qi_steal h hn (k := (y % 5).toNat) (by omega)
  have e4 : (nextQ q y).lst = lst' := by
    show lastQ q.w q.lst y = lst'
    unfold lastQ
    rcases hl with ⟨h1, _, h4⟩ | ⟨h1, h2, _⟩
    · exact absurd ho h1
    · rw [if_pos ⟨h3, h1⟩, h2]
  rcases hl with ⟨h1, _⟩ | ⟨h1, h2, h5, h6⟩
  · exact absurd ho h1
  refine ⟨?_, ?_, by rw [e4]; exact h6⟩
  · show (stepQ q.w y).got = _
    have : stepQ q.w y = stealQ q.w (y % 5).toNat := by unfold stepQ; rw [if_pos h3]
    rw [this, h5, e4]
  · show nilB q.w q.b y = false
    unfold nilB; rw [if_pos h3, decide_eq_false (fun g => g ho), Bool.and_false]
theorem less_add1 (g : List Int) (x : Int) : lessB (addB g x 1) g = true ∧ lessI (addB g x 1) g = [x] := by
  have hB : lessB (addB g x 1) g = true := by
    rw [lessB_iff]; intro o; rw [add1_count]; omega
  refine ⟨hB, ?_⟩
  unfold lessI
  rw [if_pos hB]
  have hp : (lessL (addB g x 1) g).Perm [x] := perm_count.2 fun o => by
    rw [(less_count _ _ o).1, add1_count]; omega
  exact List.perm_singleton.1 hp
namespace G
noncomputable def lV0 : List (Nat × (List T → Ans)) := (37, c37) :: lWD
noncomputable def iV0 : List (Nat × Pt) := iWD
noncomputable abbrev V0 : Env := En tgl lV0 iV0
theorem env_V0 : EnvOk Try.prog V0 := (env_fn env_WD (fun _ _ => got37) (fun vs p d sz xs h _ => (nogl37 vs p d sz xs h).elim) pk37)
end G
namespace Gs
open G
noncomputable def lV1 : List (Nat × (List T → Ans)) := (19, c19) :: lV0
noncomputable def iV1 : List (Nat × Pt) := iV0
noncomputable abbrev V1 : Env := En tgl lV1 iV1
theorem env_V1 : EnvOk Try.prog V1 := (env_fn env_V0 (fun _ _ => got19) (fun vs p d sz xs h _ => (nogl19 vs p d sz xs h).elim) pk19)
theorem ok11 (sz : Int) (xs : List T) (hq : R8 sz ∧ (IsB xs ∧ Szb8 xs)) : FnOk Try.prog tgl 11 [.int .u8 sz, .list 1 xs] (.bool true) := by
  refine fn_ok (Γ := V1) env_V1 Try.func11 low11 ?_
  obtain ⟨hsz, ⟨⟨l, rfl, hl⟩, hs⟩⟩ := hq
  unfold R8 at hsz
  have hlen : l.length ≤ 140737488355328 := by unfold Szb8 maxBytes at hs; rw [bs_len] at hs; exact hs
  obtain ⟨c, hce⟩ : ∃ c : Int, c = IntKind.i64.wrap (1 + IntKind.i64.wrap (sz.tmod 4)) := ⟨_, rfl⟩
  have hc : 1 ≤ c ∧ c ≤ 4 := by
    have h1 : sz.tmod 4 = sz % 4 := Int.tmod_eq_emod_of_nonneg hsz.1
    have h2 : IntKind.i64.wrap (sz % 4) = sz % 4 := wi_sm ⟨by omega, by omega⟩
    have h3 : IntKind.i64.wrap (1 + sz % 4) = 1 + sz % 4 := wi_sm ⟨by omega, by omega⟩
    rw [h1, h2, h3] at hce; omega
  conv => whnf
  repeat' (first
    | (refine brK_true rfl ?_; conv => whnf)
    | (refine brK_false rfl ?_; conv => whnf)
    | (refine brK_true (by assumption) ?_; conv => whnf)
    | (refine brK_false (by assumption) ?_; conv => whnf)
    | (refine brK_true ?_ ?_; (focus (simp only [List.length_nil, fx] <;> omega)); conv => whnf)
    | (refine brK_false ?_ ?_; (focus (simp only [List.length_nil, fx] <;> omega)); conv => whnf)
    | ((refine brK_of (fun h => ?_) (fun h => ?_)) <;> (have h2 := h; (try simp only [List.length_nil, fx] at h2); conv => whnf))
    | (refine reqK_of ?_ ?_; (focus (first | decide | omega | assumption | (simp only [List.length_nil, fx] <;> omega) | (simp [keyNew, sameKey, kEq] <;> omega))); conv => whnf)
    | (refine reqK_of ?_ ?_; rotate_left; (conv => whnf); rotate_left)
    | (refine nth_us ?_ ?_ ?_; (focus (first | omega | (simp only [List.length_nil, fx] <;> omega))); (focus (first | omega | (simp only [List.length_nil, fx] <;> omega))); conv => whnf)
    | (refine nth_is ?_ ?_ ?_; (focus (first | omega | (simp only [List.length_nil, fx] <;> omega))); (focus (first | omega | (simp only [List.length_nil, fx] <;> omega))); conv => whnf)
    | (refine nth_bs ?_ ?_ ?_; (focus (first | omega | (simp only [List.length_nil, fx] <;> omega))); (focus (first | omega | (simp only [List.length_nil, fx] <;> omega))); conv => whnf))
  refine ⟨c, hc, by rw [hce]; rfl, rfl, ?_⟩
  conv => whnf
  repeat' (first
    | (refine brK_true rfl ?_; conv => whnf)
    | (refine brK_false rfl ?_; conv => whnf)
    | (refine brK_true (by assumption) ?_; conv => whnf)
    | (refine brK_false (by assumption) ?_; conv => whnf)
    | (refine brK_true ?_ ?_; (focus (simp only [List.length_nil, fx] <;> omega)); conv => whnf)
    | (refine brK_false ?_ ?_; (focus (simp only [List.length_nil, fx] <;> omega)); conv => whnf)
    | ((refine brK_of (fun h => ?_) (fun h => ?_)) <;> (have h2 := h; (try simp only [List.length_nil, fx] at h2); conv => whnf))
    | (refine reqK_of ?_ ?_; (focus (first | decide | omega | assumption | (simp only [List.length_nil, fx] <;> omega) | (simp [keyNew, sameKey, kEq] <;> omega))); conv => whnf)
    | (refine reqK_of ?_ ?_; rotate_left; (conv => whnf); rotate_left)
    | (refine nth_us ?_ ?_ ?_; (focus (first | omega | (simp only [List.length_nil, fx] <;> omega))); (focus (first | omega | (simp only [List.length_nil, fx] <;> omega))); conv => whnf)
    | (refine nth_is ?_ ?_ ?_; (focus (first | omega | (simp only [List.length_nil, fx] <;> omega))); (focus (first | omega | (simp only [List.length_nil, fx] <;> omega))); conv => whnf)
    | (refine nth_bs ?_ ?_ ?_; (focus (first | omega | (simp only [List.length_nil, fx] <;> omega))); (focus (first | omega | (simp only [List.length_nil, fx] <;> omega))); conv => whnf))
  refine loopSet [.ren 70 1001, .ren 1000000000000000000000000000005 1002] [.kill 9, .kill 10, .kill 11, .kill 12, .kill 13, .kill 14, .kill 23, .kill 24, .kill 25, .kill 26, .kill 27, .kill 28, .kill 29, .kill 30, .kill 31, .kill 32, .kill 33, .kill 34, .kill 35, .kill 36, .kill 37, .kill 38, .kill 39, .kill 40, .kill 41, .kill 42, .kill 43, .kill 44, .kill 45, .kill 46, .kill 47, .kill 48, .kill 49, .kill 50, .kill 51, .kill 52, .kill 53, .kill 54, .kill 55, .kill 56, .kill 57, .kill 58, .kill 59, .kill 60, .kill 61, .kill 62, .kill 63, .kill 64, .kill 65, .kill 66, .kill 67, .kill 68, .kill 69, .kill 70, .kill 71, .kill 72, .kill 73, .kill 74, .kill 75, .kill 76, .kill 77, .kill 78, .kill 79, .kill 80, .kill 81, .kill 82, .kill 83, .kill 84, .kill 85, .kill 86, .kill 87, .kill 88, .kill 89, .kill 90, .kill 91, .kill 92, .kill 93, .kill 94, .kill 95, .kill 96, .kill 97, .kill 98, .kill 99, .kill 100, .kill 101, .kill 102, .keep [1001, 1002]] (fun k : Nat => [(7, .t (.int .i64 (qN c l k).lst)), (8, .t (.int .i64 (k : Int)))]) (fun k => ownQ (qN c l k).w (qN c l k).a (qN c l k).b) (fun k => k ≤ l.length ∧ k ≤ 400) (fun k => l.length - k) 0 ⟨Nat.zero_le _, by omega⟩ ?_
  conv => whnf
  refine ⟨⟨rfl, rfl⟩, fun k hk C hC => ?_⟩
  obtain ⟨hk1, hk2⟩ := hk
  obtain ⟨t0, b0, s0, E0, H0, hq0⟩ := qN_inv hc hl k (by omega) hk1
  have hok := hq0.ok (by omega)
  conv => whnf
  repeat' (first
    | (refine brK_true rfl ?_; conv => whnf)
    | (refine brK_false rfl ?_; conv => whnf)
    | (refine brK_true (by assumption) ?_; conv => whnf)
    | (refine brK_false (by assumption) ?_; conv => whnf)
    | (refine brK_true ?_ ?_; (focus (simp only [List.length_nil, fx] <;> omega)); conv => whnf)
    | (refine brK_false ?_ ?_; (focus (simp only [List.length_nil, fx] <;> omega)); conv => whnf)
    | ((refine brK_of (fun h => ?_) (fun h => ?_)) <;> (have h2 := h; (try simp only [List.length_nil, fx] at h2); conv => whnf))
    | (refine reqK_of ?_ ?_; (focus (first | decide | omega | assumption | (simp only [List.length_nil, fx] <;> omega) | (simp [keyNew, sameKey, kEq] <;> omega))); conv => whnf)
    | (refine reqK_of ?_ ?_; rotate_left; (conv => whnf); rotate_left)
    | (refine nth_us ?_ ?_ ?_; (focus (first | omega | (simp only [List.length_nil, fx] <;> omega))); (focus (first | omega | (simp only [List.length_nil, fx] <;> omega))); conv => whnf)
    | (refine nth_is ?_ ?_ ?_; (focus (first | omega | (simp only [List.length_nil, fx] <;> omega))); (focus (first | omega | (simp only [List.length_nil, fx] <;> omega))); conv => whnf)
    | (refine nth_bs ?_ ?_ ?_; (focus (first | omega | (simp only [List.length_nil, fx] <;> omega))); (focus (first | omega | (simp only [List.length_nil, fx] <;> omega))); conv => whnf))
  · rename_i hlt
    have hlt' : k < l.length ∧ k < 400 := by omega
    have hb : R8 (at0 l k) := hl _ (at0_mem (by simp; omega))
    have hC1 := hC (k + 1) ⟨by omega, by omega⟩ (by omega)
    have hw : IntKind.i64.wrap ((k : Int) + 1) = (k : Int) + 1 := wrap_i64 ⟨by omega, by omega⟩
    obtain ⟨t, b, s, E, H, hq⟩ := qN_inv hc hl (k + 1) (by omega) (by omega)
    have hnx : qN c l (k + 1) = nextQ (qN c l k) (at0 l k) := rfl
    have hA := q_A (q := qN c l k) (y := at0 l k)
    have hB := q_B (q := qN c l k) (y := at0 l k)
    have hCc := q_C hq0 (by omega) (y := at0 l k) hb.1
    rw [← hnx] at hA hB hCc
    refine ⟨(qN c l k).w, (qN c l k).a, (qN c l k).b, at0 l k, rfl, rfl, hb, hok, ?_⟩
    have e : ownQ (stepQ (qN c l k).w (at0 l k)) (nilA (qN c l k).w (qN c l k).a (at0 l k)) (nilB (qN c l k).w (qN c l k).b (at0 l k)) = ownQ (qN c l (k + 1)).w (qN c l (k + 1)).a (qN c l (k + 1)).b := rfl
    rw [e]
    have hy5 : IntKind.i64.wrap ((at0 l k).tmod 5) = at0 l k % 5 := by
      have := hb; unfold R8 at this
      rw [Int.tmod_eq_emod_of_nonneg this.1]; exact wi_sm ⟨by omega, by omega⟩
    generalize hQ : qN c l (k + 1) = Q2 at hq hC1 hA hB hCc ⊢
    clear hnx hC
    generalize hQ1 : qN c l k = Q1 at hok hq0 hA hB hCc ⊢
    obtain ⟨w2, a2, b2, lst2⟩ := Q2
    obtain ⟨w1, a1, b1, lst1⟩ := Q1
    generalize at0 l k = y at *
    simp only at hq hC1 hA hB hCc hok hq0 ⊢
    have hok2 := hq.ok (by omega)
    have hqI : (IsU (us w2.m) ∧ Sz (us w2.m)) ∧ I64 w2.cap := ⟨⟨isU_us hok2.m.1, hok2.m.2⟩, hok2.cap⟩
    have hIt := hq.items (by omega)
    have hIt2 : itemsE w2.m 0 w2.cap (popsB w2.owner.kind w2.owner.pc w2.owner.b w2.owner.t w2.owner.out) = itm s c t E := by rw [hq.cap]; exact hIt
    have hlm : (itm s c t E).length ≤ 4 := by
      have e : (itm s c t E).length = (E - t).toNat := itR_len _ _ _ _
      have := hq.t1; omega
    have hSO : ∀ j : Nat, 1 ≤ j → j < (itm s c t E).length → at0 (itm s c t E) ((j - 1 : Nat) : Int) < at0 (itm s c t E) (j : Int) := fun j h1 h2 => by
      have e : (itm s c t E).length = (E - t).toNat := itR_len _ _ _ _
      have ht := hq.t1
      unfold itm at h2 ⊢
      rw [itR_len] at h2
      rw [itR_at (by omega), itR_at (by omega)]
      exact hq.so _ _ (by omega) (by omega) (by omega)
    have hgI1 : IsI (is w1.got) ∧ SzB (is w1.got) := ⟨isI_is hok.go.2.1, by unfold SzB maxBytes; rw [is_len]; have := hok.go.2.2; omega⟩
    have hgI2 : IsI (is w2.got) ∧ SzB (is w2.got) := ⟨isI_is hok2.go.2.1, by unfold SzB maxBytes; rw [is_len]; have := hok2.go.2.2; omega⟩
    have hqL := hgI2
    have hqL2 := And.intro hgI2 hgI1
    by_cases h3 : y % 5 < 3
    · by_cases ho : (dstep w1.m (dAt w1.thief (y % 5).toNat)).2.out = 1
      · obtain ⟨hg, hbb, hll⟩ := hCc h3 ho
        subst hbb
        have hgl : w2.got.length = w1.got.length + 1 := by rw [hg, add1_len]
        obtain ⟨hLB, hLI⟩ := less_add1 w1.got lst2
        rw [← hg] at hLB hLI
        cases b1
        · have f1 : lessB (nums (is w2.got)) (nums (is w1.got)) = true := by rw [nums_is, nums_is]; exact hLB
          have f2 : (lessI (nums (is w2.got)) (nums (is w1.got))).length = 1 := by rw [nums_is, nums_is, hLI]; rfl
          have f3 : at0 (lessI (nums (is w2.got)) (nums (is w1.got))) 0 = lst2 := by rw [nums_is, nums_is, hLI]; rfl
          conv => whnf
          repeat' (first
            | (refine brK_true rfl ?_; conv => whnf)
            | (refine brK_false rfl ?_; conv => whnf)
            | (refine brK_true (by assumption) ?_; conv => whnf)
            | (refine brK_false (by assumption) ?_; conv => whnf)
            | (refine brK_true ?_ ?_; (focus (simp only [List.length_nil, fx, nums_us, hIt2, is_len, hgl, f1, f2, f3] <;> omega)); conv => whnf)
            | (refine brK_false ?_ ?_; (focus (simp only [List.length_nil, fx, nums_us, hIt2, is_len, hgl, f1, f2, f3] <;> omega)); conv => whnf)
            | ((refine brK_of (fun h => ?_) (fun h => ?_)) <;> (have h2 := h; (try simp only [List.length_nil, fx, nums_us, hIt2, is_len, hgl, f1, f2, f3] at h2); conv => whnf))
            | (refine reqK_of ?_ ?_; (focus (first | decide | omega | assumption | (simp only [List.length_nil, fx, nums_us, hIt2, is_len, hgl, f1, f2, f3] <;> omega) | (simp [keyNew, sameKey, kEq] <;> omega))); conv => whnf)
            | (refine reqK_of ?_ ?_; rotate_left; (conv => whnf); rotate_left)
            | (refine nth_us ?_ ?_ ?_; (focus (first | omega | (simp only [List.length_nil, fx, nums_us, hIt2, is_len, hgl, f1, f2, f3] <;> omega))); (focus (first | omega | (simp only [List.length_nil, fx, nums_us, hIt2, is_len, hgl, f1, f2, f3] <;> omega))); conv => whnf)
            | (refine nth_is ?_ ?_ ?_; (focus (first | omega | (simp only [List.length_nil, fx, nums_us, hIt2, is_len, hgl, f1, f2, f3] <;> omega))); (focus (first | omega | (simp only [List.length_nil, fx, nums_us, hIt2, is_len, hgl, f1, f2, f3] <;> omega))); conv => whnf)
            | (refine nth_bs ?_ ?_ ?_; (focus (first | omega | (simp only [List.length_nil, fx, nums_us, hIt2, is_len, hgl, f1, f2, f3] <;> omega))); (focus (first | omega | (simp only [List.length_nil, fx, nums_us, hIt2, is_len, hgl, f1, f2, f3] <;> omega))); conv => whnf))
          all_goals first
            | exact hqI
            | exact hqL
            | exact hqL2
            | skip
          refine loopSet [] [.kill 87, .kill 88, .kill 89, .kill 90, .kill 91, .kill 92, .kill 93, .kill 94, .kill 95, .kill 96, .kill 97, .kill 98, .kill 99, .kill 100, .kill 101, .kill 102] (fun j : Nat => [(14, .t (.int .i64 (j : Int)))]) (fun _ => ownQ w2 a2 false) (fun j => 1 ≤ j ∧ j ≤ 5) (fun j => 5 - j) 1 ⟨Nat.le_refl _, by omega⟩ ?_
          conv => whnf
          refine ⟨⟨rfl, rfl⟩, fun j hj D hD => ?_⟩
          obtain ⟨hj1, hj2⟩ := hj
          have hwj1 : IntKind.i64.wrap ((j : Int) - 1) = ((j - 1 : Nat) : Int) := by rw [show (j : Int) - 1 = ((j - 1 : Nat) : Int) by omega]; exact wrap_i64 ⟨by omega, by omega⟩
          have hwj : IntKind.i64.wrap ((j : Int) + 1) = ((j + 1 : Nat) : Int) := by rw [Int.natCast_succ]; exact wrap_i64 ⟨by omega, by omega⟩
          have hso := hSO j hj1
          conv => whnf
          repeat' (first
            | (refine brK_true rfl ?_; conv => whnf)
            | (refine brK_false rfl ?_; conv => whnf)
            | (refine brK_true (by assumption) ?_; conv => whnf)
            | (refine brK_false (by assumption) ?_; conv => whnf)
            | (refine brK_true ?_ ?_; (focus (simp only [List.length_nil, fx, nums_us, hIt2, is_len, hwj1] <;> omega)); conv => whnf)
            | (refine brK_false ?_ ?_; (focus (simp only [List.length_nil, fx, nums_us, hIt2, is_len, hwj1] <;> omega)); conv => whnf)
            | ((refine brK_of (fun h => ?_) (fun h => ?_)) <;> (have h2 := h; (try simp only [List.length_nil, fx, nums_us, hIt2, is_len, hwj1] at h2); conv => whnf))
            | (refine reqK_of ?_ ?_; (focus (first | decide | omega | assumption | (simp only [List.length_nil, fx, nums_us, hIt2, is_len, hwj1] <;> omega) | (simp [keyNew, sameKey, kEq] <;> omega))); conv => whnf)
            | (refine reqK_of ?_ ?_; rotate_left; (conv => whnf); rotate_left)
            | (refine nth_us ?_ ?_ ?_; (focus (first | omega | (simp only [List.length_nil, fx, nums_us, hIt2, is_len, hwj1] <;> omega))); (focus (first | omega | (simp only [List.length_nil, fx, nums_us, hIt2, is_len, hwj1] <;> omega))); conv => whnf)
            | (refine nth_is ?_ ?_ ?_; (focus (first | omega | (simp only [List.length_nil, fx, nums_us, hIt2, is_len, hwj1] <;> omega))); (focus (first | omega | (simp only [List.length_nil, fx, nums_us, hIt2, is_len, hwj1] <;> omega))); conv => whnf)
            | (refine nth_bs ?_ ?_ ?_; (focus (first | omega | (simp only [List.length_nil, fx, nums_us, hIt2, is_len, hwj1] <;> omega))); (focus (first | omega | (simp only [List.length_nil, fx, nums_us, hIt2, is_len, hwj1] <;> omega))); conv => whnf))
          · refine loopC (hD (j + 1) ⟨by omega, by omega⟩ (by omega)) ?_
            rw [hwj]; rfl
          · refine loopC hC1 ?_
            rw [hw, Int.natCast_succ, f3]
            rfl

        · have hz : w1.got = [] := hq0.nil.2 rfl
          rw [hz] at hLB hLI hgl
          have f1 : lessB (nums (is w2.got)) [] = true := by rw [nums_is]; exact hLB
          have f2 : (lessI (nums (is w2.got)) []).length = 1 := by rw [nums_is, hLI]; rfl
          have f3 : at0 (lessI (nums (is w2.got)) []) 0 = lst2 := by rw [nums_is, hLI]; rfl
          rw [List.length_nil] at hgl
          conv => whnf
          repeat' (first
            | (refine brK_true rfl ?_; conv => whnf)
            | (refine brK_false rfl ?_; conv => whnf)
            | (refine brK_true (by assumption) ?_; conv => whnf)
            | (refine brK_false (by assumption) ?_; conv => whnf)
            | (refine brK_true ?_ ?_; (focus (simp only [List.length_nil, fx, nums_us, hIt2, is_len, hgl, f1, f2, f3] <;> omega)); conv => whnf)
            | (refine brK_false ?_ ?_; (focus (simp only [List.length_nil, fx, nums_us, hIt2, is_len, hgl, f1, f2, f3] <;> omega)); conv => whnf)
            | ((refine brK_of (fun h => ?_) (fun h => ?_)) <;> (have h2 := h; (try simp only [List.length_nil, fx, nums_us, hIt2, is_len, hgl, f1, f2, f3] at h2); conv => whnf))
            | (refine reqK_of ?_ ?_; (focus (first | decide | omega | assumption | (simp only [List.length_nil, fx, nums_us, hIt2, is_len, hgl, f1, f2, f3] <;> omega) | (simp [keyNew, sameKey, kEq] <;> omega))); conv => whnf)
            | (refine reqK_of ?_ ?_; rotate_left; (conv => whnf); rotate_left)
            | (refine nth_us ?_ ?_ ?_; (focus (first | omega | (simp only [List.length_nil, fx, nums_us, hIt2, is_len, hgl, f1, f2, f3] <;> omega))); (focus (first | omega | (simp only [List.length_nil, fx, nums_us, hIt2, is_len, hgl, f1, f2, f3] <;> omega))); conv => whnf)
            | (refine nth_is ?_ ?_ ?_; (focus (first | omega | (simp only [List.length_nil, fx, nums_us, hIt2, is_len, hgl, f1, f2, f3] <;> omega))); (focus (first | omega | (simp only [List.length_nil, fx, nums_us, hIt2, is_len, hgl, f1, f2, f3] <;> omega))); conv => whnf)
            | (refine nth_bs ?_ ?_ ?_; (focus (first | omega | (simp only [List.length_nil, fx, nums_us, hIt2, is_len, hgl, f1, f2, f3] <;> omega))); (focus (first | omega | (simp only [List.length_nil, fx, nums_us, hIt2, is_len, hgl, f1, f2, f3] <;> omega))); conv => whnf))
          all_goals first
            | exact hqI
            | exact hqL
            | exact hqL2
            | skip
          refine loopSet [] [.kill 87, .kill 88, .kill 89, .kill 90, .kill 91, .kill 92, .kill 93, .kill 94, .kill 95, .kill 96, .kill 97, .kill 98, .kill 99, .kill 100, .kill 101, .kill 102] (fun j : Nat => [(14, .t (.int .i64 (j : Int)))]) (fun _ => ownQ w2 a2 false) (fun j => 1 ≤ j ∧ j ≤ 5) (fun j => 5 - j) 1 ⟨Nat.le_refl _, by omega⟩ ?_
          conv => whnf
          refine ⟨⟨rfl, rfl⟩, fun j hj D hD => ?_⟩
          obtain ⟨hj1, hj2⟩ := hj
          have hwj1 : IntKind.i64.wrap ((j : Int) - 1) = ((j - 1 : Nat) : Int) := by rw [show (j : Int) - 1 = ((j - 1 : Nat) : Int) by omega]; exact wrap_i64 ⟨by omega, by omega⟩
          have hwj : IntKind.i64.wrap ((j : Int) + 1) = ((j + 1 : Nat) : Int) := by rw [Int.natCast_succ]; exact wrap_i64 ⟨by omega, by omega⟩
          have hso := hSO j hj1
          conv => whnf
          repeat' (first
            | (refine brK_true rfl ?_; conv => whnf)
            | (refine brK_false rfl ?_; conv => whnf)
            | (refine brK_true (by assumption) ?_; conv => whnf)
            | (refine brK_false (by assumption) ?_; conv => whnf)
            | (refine brK_true ?_ ?_; (focus (simp only [List.length_nil, fx, nums_us, hIt2, is_len, hwj1] <;> omega)); conv => whnf)
            | (refine brK_false ?_ ?_; (focus (simp only [List.length_nil, fx, nums_us, hIt2, is_len, hwj1] <;> omega)); conv => whnf)
            | ((refine brK_of (fun h => ?_) (fun h => ?_)) <;> (have h2 := h; (try simp only [List.length_nil, fx, nums_us, hIt2, is_len, hwj1] at h2); conv => whnf))
            | (refine reqK_of ?_ ?_; (focus (first | decide | omega | assumption | (simp only [List.length_nil, fx, nums_us, hIt2, is_len, hwj1] <;> omega) | (simp [keyNew, sameKey, kEq] <;> omega))); conv => whnf)
            | (refine reqK_of ?_ ?_; rotate_left; (conv => whnf); rotate_left)
            | (refine nth_us ?_ ?_ ?_; (focus (first | omega | (simp only [List.length_nil, fx, nums_us, hIt2, is_len, hwj1] <;> omega))); (focus (first | omega | (simp only [List.length_nil, fx, nums_us, hIt2, is_len, hwj1] <;> omega))); conv => whnf)
            | (refine nth_is ?_ ?_ ?_; (focus (first | omega | (simp only [List.length_nil, fx, nums_us, hIt2, is_len, hwj1] <;> omega))); (focus (first | omega | (simp only [List.length_nil, fx, nums_us, hIt2, is_len, hwj1] <;> omega))); conv => whnf)
            | (refine nth_bs ?_ ?_ ?_; (focus (first | omega | (simp only [List.length_nil, fx, nums_us, hIt2, is_len, hwj1] <;> omega))); (focus (first | omega | (simp only [List.length_nil, fx, nums_us, hIt2, is_len, hwj1] <;> omega))); conv => whnf))
          · refine loopC (hD (j + 1) ⟨by omega, by omega⟩ (by omega)) ?_
            rw [hwj]; rfl
          · refine loopC hC1 ?_
            rw [hw, Int.natCast_succ, f3]
            rfl

      · obtain ⟨hg, hbb, hll⟩ := hB h3 ho
        subst hbb hll
        have hgl : w2.got.length = w1.got.length := by rw [hg]
        cases b2
        · conv => whnf
          repeat' (first
            | (refine brK_true rfl ?_; conv => whnf)
            | (refine brK_false rfl ?_; conv => whnf)
            | (refine brK_true (by assumption) ?_; conv => whnf)
            | (refine brK_false (by assumption) ?_; conv => whnf)
            | (refine brK_true ?_ ?_; (focus (simp only [List.length_nil, fx, nums_us, hIt2, is_len, hgl] <;> omega)); conv => whnf)
            | (refine brK_false ?_ ?_; (focus (simp only [List.length_nil, fx, nums_us, hIt2, is_len, hgl] <;> omega)); conv => whnf)
            | ((refine brK_of (fun h => ?_) (fun h => ?_)) <;> (have h2 := h; (try simp only [List.length_nil, fx, nums_us, hIt2, is_len, hgl] at h2); conv => whnf))
            | (refine reqK_of ?_ ?_; (focus (first | decide | omega | assumption | (simp only [List.length_nil, fx, nums_us, hIt2, is_len, hgl] <;> omega) | (simp [keyNew, sameKey, kEq] <;> omega))); conv => whnf)
            | (refine reqK_of ?_ ?_; rotate_left; (conv => whnf); rotate_left)
            | (refine nth_us ?_ ?_ ?_; (focus (first | omega | (simp only [List.length_nil, fx, nums_us, hIt2, is_len, hgl] <;> omega))); (focus (first | omega | (simp only [List.length_nil, fx, nums_us, hIt2, is_len, hgl] <;> omega))); conv => whnf)
            | (refine nth_is ?_ ?_ ?_; (focus (first | omega | (simp only [List.length_nil, fx, nums_us, hIt2, is_len, hgl] <;> omega))); (focus (first | omega | (simp only [List.length_nil, fx, nums_us, hIt2, is_len, hgl] <;> omega))); conv => whnf)
            | (refine nth_bs ?_ ?_ ?_; (focus (first | omega | (simp only [List.length_nil, fx, nums_us, hIt2, is_len, hgl] <;> omega))); (focus (first | omega | (simp only [List.length_nil, fx, nums_us, hIt2, is_len, hgl] <;> omega))); conv => whnf))
          all_goals first
            | exact hqI
            | exact hqL
            | exact hqL2
            | skip
          refine loopSet [] [.kill 87, .kill 88, .kill 89, .kill 90, .kill 91, .kill 92, .kill 93, .kill 94, .kill 95, .kill 96, .kill 97, .kill 98, .kill 99, .kill 100, .kill 101, .kill 102] (fun j : Nat => [(14, .t (.int .i64 (j : Int)))]) (fun _ => ownQ w2 a2 false) (fun j => 1 ≤ j ∧ j ≤ 5) (fun j => 5 - j) 1 ⟨Nat.le_refl _, by omega⟩ ?_
          conv => whnf
          refine ⟨⟨rfl, rfl⟩, fun j hj D hD => ?_⟩
          obtain ⟨hj1, hj2⟩ := hj
          have hwj1 : IntKind.i64.wrap ((j : Int) - 1) = ((j - 1 : Nat) : Int) := by rw [show (j : Int) - 1 = ((j - 1 : Nat) : Int) by omega]; exact wrap_i64 ⟨by omega, by omega⟩
          have hwj : IntKind.i64.wrap ((j : Int) + 1) = ((j + 1 : Nat) : Int) := by rw [Int.natCast_succ]; exact wrap_i64 ⟨by omega, by omega⟩
          have hso := hSO j hj1
          conv => whnf
          repeat' (first
            | (refine brK_true rfl ?_; conv => whnf)
            | (refine brK_false rfl ?_; conv => whnf)
            | (refine brK_true (by assumption) ?_; conv => whnf)
            | (refine brK_false (by assumption) ?_; conv => whnf)
            | (refine brK_true ?_ ?_; (focus (simp only [List.length_nil, fx, nums_us, hIt2, is_len, hwj1] <;> omega)); conv => whnf)
            | (refine brK_false ?_ ?_; (focus (simp only [List.length_nil, fx, nums_us, hIt2, is_len, hwj1] <;> omega)); conv => whnf)
            | ((refine brK_of (fun h => ?_) (fun h => ?_)) <;> (have h2 := h; (try simp only [List.length_nil, fx, nums_us, hIt2, is_len, hwj1] at h2); conv => whnf))
            | (refine reqK_of ?_ ?_; (focus (first | decide | omega | assumption | (simp only [List.length_nil, fx, nums_us, hIt2, is_len, hwj1] <;> omega) | (simp [keyNew, sameKey, kEq] <;> omega))); conv => whnf)
            | (refine reqK_of ?_ ?_; rotate_left; (conv => whnf); rotate_left)
            | (refine nth_us ?_ ?_ ?_; (focus (first | omega | (simp only [List.length_nil, fx, nums_us, hIt2, is_len, hwj1] <;> omega))); (focus (first | omega | (simp only [List.length_nil, fx, nums_us, hIt2, is_len, hwj1] <;> omega))); conv => whnf)
            | (refine nth_is ?_ ?_ ?_; (focus (first | omega | (simp only [List.length_nil, fx, nums_us, hIt2, is_len, hwj1] <;> omega))); (focus (first | omega | (simp only [List.length_nil, fx, nums_us, hIt2, is_len, hwj1] <;> omega))); conv => whnf)
            | (refine nth_bs ?_ ?_ ?_; (focus (first | omega | (simp only [List.length_nil, fx, nums_us, hIt2, is_len, hwj1] <;> omega))); (focus (first | omega | (simp only [List.length_nil, fx, nums_us, hIt2, is_len, hwj1] <;> omega))); conv => whnf))
          · refine loopC (hD (j + 1) ⟨by omega, by omega⟩ (by omega)) ?_
            rw [hwj]; rfl
          · refine loopC hC1 ?_
            rw [hw, Int.natCast_succ]
            rfl

        · conv => whnf
          repeat' (first
            | (refine brK_true rfl ?_; conv => whnf)
            | (refine brK_false rfl ?_; conv => whnf)
            | (refine brK_true (by assumption) ?_; conv => whnf)
            | (refine brK_false (by assumption) ?_; conv => whnf)
            | (refine brK_true ?_ ?_; (focus (simp only [List.length_nil, fx, nums_us, hIt2, is_len, hgl] <;> omega)); conv => whnf)
            | (refine brK_false ?_ ?_; (focus (simp only [List.length_nil, fx, nums_us, hIt2, is_len, hgl] <;> omega)); conv => whnf)
            | ((refine brK_of (fun h => ?_) (fun h => ?_)) <;> (have h2 := h; (try simp only [List.length_nil, fx, nums_us, hIt2, is_len, hgl] at h2); conv => whnf))
            | (refine reqK_of ?_ ?_; (focus (first | decide | omega | assumption | (simp only [List.length_nil, fx, nums_us, hIt2, is_len, hgl] <;> omega) | (simp [keyNew, sameKey, kEq] <;> omega))); conv => whnf)
            | (refine reqK_of ?_ ?_; rotate_left; (conv => whnf); rotate_left)
            | (refine nth_us ?_ ?_ ?_; (focus (first | omega | (simp only [List.length_nil, fx, nums_us, hIt2, is_len, hgl] <;> omega))); (focus (first | omega | (simp only [List.length_nil, fx, nums_us, hIt2, is_len, hgl] <;> omega))); conv => whnf)
            | (refine nth_is ?_ ?_ ?_; (focus (first | omega | (simp only [List.length_nil, fx, nums_us, hIt2, is_len, hgl] <;> omega))); (focus (first | omega | (simp only [List.length_nil, fx, nums_us, hIt2, is_len, hgl] <;> omega))); conv => whnf)
            | (refine nth_bs ?_ ?_ ?_; (focus (first | omega | (simp only [List.length_nil, fx, nums_us, hIt2, is_len, hgl] <;> omega))); (focus (first | omega | (simp only [List.length_nil, fx, nums_us, hIt2, is_len, hgl] <;> omega))); conv => whnf))
          all_goals first
            | exact hqI
            | exact hqL
            | exact hqL2
            | skip
          refine loopSet [] [.kill 87, .kill 88, .kill 89, .kill 90, .kill 91, .kill 92, .kill 93, .kill 94, .kill 95, .kill 96, .kill 97, .kill 98, .kill 99, .kill 100, .kill 101, .kill 102] (fun j : Nat => [(14, .t (.int .i64 (j : Int)))]) (fun _ => ownQ w2 a2 true) (fun j => 1 ≤ j ∧ j ≤ 5) (fun j => 5 - j) 1 ⟨Nat.le_refl _, by omega⟩ ?_
          conv => whnf
          refine ⟨⟨rfl, rfl⟩, fun j hj D hD => ?_⟩
          obtain ⟨hj1, hj2⟩ := hj
          have hwj1 : IntKind.i64.wrap ((j : Int) - 1) = ((j - 1 : Nat) : Int) := by rw [show (j : Int) - 1 = ((j - 1 : Nat) : Int) by omega]; exact wrap_i64 ⟨by omega, by omega⟩
          have hwj : IntKind.i64.wrap ((j : Int) + 1) = ((j + 1 : Nat) : Int) := by rw [Int.natCast_succ]; exact wrap_i64 ⟨by omega, by omega⟩
          have hso := hSO j hj1
          conv => whnf
          repeat' (first
            | (refine brK_true rfl ?_; conv => whnf)
            | (refine brK_false rfl ?_; conv => whnf)
            | (refine brK_true (by assumption) ?_; conv => whnf)
            | (refine brK_false (by assumption) ?_; conv => whnf)
            | (refine brK_true ?_ ?_; (focus (simp only [List.length_nil, fx, nums_us, hIt2, is_len, hwj1] <;> omega)); conv => whnf)
            | (refine brK_false ?_ ?_; (focus (simp only [List.length_nil, fx, nums_us, hIt2, is_len, hwj1] <;> omega)); conv => whnf)
            | ((refine brK_of (fun h => ?_) (fun h => ?_)) <;> (have h2 := h; (try simp only [List.length_nil, fx, nums_us, hIt2, is_len, hwj1] at h2); conv => whnf))
            | (refine reqK_of ?_ ?_; (focus (first | decide | omega | assumption | (simp only [List.length_nil, fx, nums_us, hIt2, is_len, hwj1] <;> omega) | (simp [keyNew, sameKey, kEq] <;> omega))); conv => whnf)
            | (refine reqK_of ?_ ?_; rotate_left; (conv => whnf); rotate_left)
            | (refine nth_us ?_ ?_ ?_; (focus (first | omega | (simp only [List.length_nil, fx, nums_us, hIt2, is_len, hwj1] <;> omega))); (focus (first | omega | (simp only [List.length_nil, fx, nums_us, hIt2, is_len, hwj1] <;> omega))); conv => whnf)
            | (refine nth_is ?_ ?_ ?_; (focus (first | omega | (simp only [List.length_nil, fx, nums_us, hIt2, is_len, hwj1] <;> omega))); (focus (first | omega | (simp only [List.length_nil, fx, nums_us, hIt2, is_len, hwj1] <;> omega))); conv => whnf)
            | (refine nth_bs ?_ ?_ ?_; (focus (first | omega | (simp only [List.length_nil, fx, nums_us, hIt2, is_len, hwj1] <;> omega))); (focus (first | omega | (simp only [List.length_nil, fx, nums_us, hIt2, is_len, hwj1] <;> omega))); conv => whnf))
          · refine loopC (hD (j + 1) ⟨by omega, by omega⟩ (by omega)) ?_
            rw [hwj]; rfl
          · refine loopC hC1 ?_
            rw [hw, Int.natCast_succ]
            rfl

    · have hl2 := hA h3
      subst hl2
      conv => whnf
      repeat' (first
        | (refine brK_true rfl ?_; conv => whnf)
        | (refine brK_false rfl ?_; conv => whnf)
        | (refine brK_true (by assumption) ?_; conv => whnf)
        | (refine brK_false (by assumption) ?_; conv => whnf)
        | (refine brK_true ?_ ?_; (focus (simp only [List.length_nil, fx, nums_us, hIt2, is_len] <;> omega)); conv => whnf)
        | (refine brK_false ?_ ?_; (focus (simp only [List.length_nil, fx, nums_us, hIt2, is_len] <;> omega)); conv => whnf)
        | ((refine brK_of (fun h => ?_) (fun h => ?_)) <;> (have h2 := h; (try simp only [List.length_nil, fx, nums_us, hIt2, is_len] at h2); conv => whnf))
        | (refine reqK_of ?_ ?_; (focus (first | decide | omega | assumption | (simp only [List.length_nil, fx, nums_us, hIt2, is_len] <;> omega) | (simp [keyNew, sameKey, kEq] <;> omega))); conv => whnf)
        | (refine reqK_of ?_ ?_; rotate_left; (conv => whnf); rotate_left)
        | (refine nth_us ?_ ?_ ?_; (focus (first | omega | (simp only [List.length_nil, fx, nums_us, hIt2, is_len] <;> omega))); (focus (first | omega | (simp only [List.length_nil, fx, nums_us, hIt2, is_len] <;> omega))); conv => whnf)
        | (refine nth_is ?_ ?_ ?_; (focus (first | omega | (simp only [List.length_nil, fx, nums_us, hIt2, is_len] <;> omega))); (focus (first | omega | (simp only [List.length_nil, fx, nums_us, hIt2, is_len] <;> omega))); conv => whnf)
        | (refine nth_bs ?_ ?_ ?_; (focus (first | omega | (simp only [List.length_nil, fx, nums_us, hIt2, is_len] <;> omega))); (focus (first | omega | (simp only [List.length_nil, fx, nums_us, hIt2, is_len] <;> omega))); conv => whnf))
      all_goals first
        | exact hqI
        | exact hqL
        | exact hqL2
        | skip
      refine loopSet [] [.kill 87, .kill 88, .kill 89, .kill 90, .kill 91, .kill 92, .kill 93, .kill 94, .kill 95, .kill 96, .kill 97, .kill 98, .kill 99, .kill 100, .kill 101, .kill 102] (fun j : Nat => [(14, .t (.int .i64 (j : Int)))]) (fun _ => ownQ w2 a2 b2) (fun j => 1 ≤ j ∧ j ≤ 5) (fun j => 5 - j) 1 ⟨Nat.le_refl _, by omega⟩ ?_
      conv => whnf
      refine ⟨⟨rfl, rfl⟩, fun j hj D hD => ?_⟩
      obtain ⟨hj1, hj2⟩ := hj
      have hwj1 : IntKind.i64.wrap ((j : Int) - 1) = ((j - 1 : Nat) : Int) := by rw [show (j : Int) - 1 = ((j - 1 : Nat) : Int) by omega]; exact wrap_i64 ⟨by omega, by omega⟩
      have hwj : IntKind.i64.wrap ((j : Int) + 1) = ((j + 1 : Nat) : Int) := by rw [Int.natCast_succ]; exact wrap_i64 ⟨by omega, by omega⟩
      have hso := hSO j hj1
      conv => whnf
      repeat' (first
        | (refine brK_true rfl ?_; conv => whnf)
        | (refine brK_false rfl ?_; conv => whnf)
        | (refine brK_true (by assumption) ?_; conv => whnf)
        | (refine brK_false (by assumption) ?_; conv => whnf)
        | (refine brK_true ?_ ?_; (focus (simp only [List.length_nil, fx, nums_us, hIt2, is_len, hwj1] <;> omega)); conv => whnf)
        | (refine brK_false ?_ ?_; (focus (simp only [List.length_nil, fx, nums_us, hIt2, is_len, hwj1] <;> omega)); conv => whnf)
        | ((refine brK_of (fun h => ?_) (fun h => ?_)) <;> (have h2 := h; (try simp only [List.length_nil, fx, nums_us, hIt2, is_len, hwj1] at h2); conv => whnf))
        | (refine reqK_of ?_ ?_; (focus (first | decide | omega | assumption | (simp only [List.length_nil, fx, nums_us, hIt2, is_len, hwj1] <;> omega) | (simp [keyNew, sameKey, kEq] <;> omega))); conv => whnf)
        | (refine reqK_of ?_ ?_; rotate_left; (conv => whnf); rotate_left)
        | (refine nth_us ?_ ?_ ?_; (focus (first | omega | (simp only [List.length_nil, fx, nums_us, hIt2, is_len, hwj1] <;> omega))); (focus (first | omega | (simp only [List.length_nil, fx, nums_us, hIt2, is_len, hwj1] <;> omega))); conv => whnf)
        | (refine nth_is ?_ ?_ ?_; (focus (first | omega | (simp only [List.length_nil, fx, nums_us, hIt2, is_len, hwj1] <;> omega))); (focus (first | omega | (simp only [List.length_nil, fx, nums_us, hIt2, is_len, hwj1] <;> omega))); conv => whnf)
        | (refine nth_bs ?_ ?_ ?_; (focus (first | omega | (simp only [List.length_nil, fx, nums_us, hIt2, is_len, hwj1] <;> omega))); (focus (first | omega | (simp only [List.length_nil, fx, nums_us, hIt2, is_len, hwj1] <;> omega))); conv => whnf))
      · refine loopC (hD (j + 1) ⟨by omega, by omega⟩ (by omega)) ?_
        rw [hwj]; rfl
      · refine loopC hC1 ?_
        rw [hw, Int.natCast_succ]
        rfl
open Classical in
noncomputable def c11 : List T → Ans
  | [.int .u8 sz, .list 1 xs] => .req (R8 sz ∧ (IsB xs ∧ Szb8 xs)) (.bool true)
  | _ => .no
theorem got11 {vs : List T} {x : T} (h : Got (c11 vs) x) : FnOk Try.prog tgl 11 vs x := by
  unfold c11 at h
  split at h
  · obtain ⟨hq, e⟩ := got_req h; rw [e]; exact ok11 _ _ hq
  · exact (got_no h).elim
theorem nogl11 (vs : List T) (p : Prop) (d : Decidable p) (sz : Nat) (xs : List T) (h : c11 vs = @Ans.gl p d sz xs) : False := by
  unfold c11 at h
  split at h <;> cases h
theorem pk11 (vs : List T) (p : Prop) (d : Decidable p) (x : T) (h : c11 vs = @Ans.pk p d x) (hp : p) : FnOk Try.prog tgl 11 vs x := by
  unfold c11 at h
  split at h
  · cases h
  · cases h
end Gs
end Go.Nx
