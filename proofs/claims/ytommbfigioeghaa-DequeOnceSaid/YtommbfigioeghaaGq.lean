/-
  DEQUES: EACH IS ONCE: walked.
-/
import Derived.Test.YtommbfigioeghaaGy
set_option linter.unusedVariables false
set_option linter.unusedSimpArgs false
set_option maxRecDepth 100000
set_option maxHeartbeats 16000000
namespace Go.Nx
open Go.RowKit Go.Proofs

theorem nums_isA (l : List Int) : nums (is l ++ []) = l := by rw [List.append_nil, nums_is]
namespace Gq
theorem ok30 (xs ys : List T) (hq : (IsI xs ∧ IsI ys) ∧ (xs.length + ys.length) * 8 ≤ maxBytes) : FnOk Try.prog tgl 30 [.list 1 xs, .list 1 ys] (.list 1 (is (srt (nums xs ++ nums ys)))) := by
  exact _root_.Go.Nx.ok30 _ _ hq
theorem ok30_2 (xs : List T) (hq : IsI xs ∧ xs.length * 8 ≤ maxBytes) : FnOk Try.prog tgl 30 [.list 1 xs, .nils] (.list 1 (is (srt (nums xs ++ [])))) := by
  exact FnOk.nilB (_root_.Go.Nx.ok30 xs [] ⟨⟨hq.1, ⟨[], rfl, fun _ h => (by cases h)⟩⟩, by simpa using hq.2⟩)
open Classical in
noncomputable def c30 : List T → Ans
  | [.list 1 xs, .list 1 ys] => .req ((IsI xs ∧ IsI ys) ∧ (xs.length + ys.length) * 8 ≤ maxBytes) (.list 1 (is (srt (nums xs ++ nums ys))))
  | [.list 1 xs, .nils] => .req (IsI xs ∧ xs.length * 8 ≤ maxBytes) (.list 1 (is (srt (nums xs ++ []))))
  | _ => .no
theorem got30 {vs : List T} {x : T} (h : Got (c30 vs) x) : FnOk Try.prog tgl 30 vs x := by
  unfold c30 at h
  split at h
  · obtain ⟨hq, e⟩ := got_req h; rw [e]; exact ok30 _ _ hq
  · obtain ⟨hq, e⟩ := got_req h; rw [e]; exact ok30_2 _ hq
  · exact (got_no h).elim
theorem nogl30 (vs : List T) (p : Prop) (d : Decidable p) (sz : Nat) (xs : List T) (h : c30 vs = @Ans.gl p d sz xs) : False := by
  unfold c30 at h
  split at h <;> cases h
theorem pk30 (vs : List T) (p : Prop) (d : Decidable p) (x : T) (h : c30 vs = @Ans.pk p d x) (hp : p) : FnOk Try.prog tgl 30 vs x := by
  unfold c30 at h
  split at h
  · cases h
  · cases h
  · cases h
theorem ok16 (xs ys : List T) (hq : (IsI xs ∧ SzB xs) ∧ (IsI ys ∧ SzB ys)) : FnOk Try.prog tgl 16 [.list 1 xs, .list 1 ys] (.bool (eqNs (srt (nums xs)) (srt (nums ys)))) := by
  exact _root_.Go.Nx.ok16 _ _ hq
theorem ok16_2 (ys : List T) (hq : IsI ys ∧ SzB ys) : FnOk Try.prog tgl 16 [.nils, .list 1 ys] (.bool (eqNs (srt []) (srt (nums ys)))) := by
  exact FnOk.nilA (_root_.Go.Nx.ok16 [] ys ⟨⟨⟨[], rfl, fun _ h => (by cases h)⟩, by unfold SzB maxBytes; simp⟩, hq⟩)
open Classical in
noncomputable def c16 : List T → Ans
  | [.list 1 xs, .list 1 ys] => .req ((IsI xs ∧ SzB xs) ∧ (IsI ys ∧ SzB ys)) (.bool (eqNs (srt (nums xs)) (srt (nums ys))))
  | [.nils, .list 1 ys] => .req (IsI ys ∧ SzB ys) (.bool (eqNs (srt []) (srt (nums ys))))
  | _ => .no
theorem got16 {vs : List T} {x : T} (h : Got (c16 vs) x) : FnOk Try.prog tgl 16 vs x := by
  unfold c16 at h
  split at h
  · obtain ⟨hq, e⟩ := got_req h; rw [e]; exact ok16 _ _ hq
  · obtain ⟨hq, e⟩ := got_req h; rw [e]; exact ok16_2 _ hq
  · exact (got_no h).elim
theorem nogl16 (vs : List T) (p : Prop) (d : Decidable p) (sz : Nat) (xs : List T) (h : c16 vs = @Ans.gl p d sz xs) : False := by
  unfold c16 at h
  split at h <;> cases h
theorem pk16 (vs : List T) (p : Prop) (d : Decidable p) (x : T) (h : c16 vs = @Ans.pk p d x) (hp : p) : FnOk Try.prog tgl 16 vs x := by
  unfold c16 at h
  split at h
  · cases h
  · cases h
  · cases h
end Gq
def heldV (w : Wq) : V := if w.owner.kind = 2 ∧ w.owner.out = 0 then (if w.owner.pc = 6 then .cl 1 [.int .i64 w.owner.x] else if w.owner.pc = 3 ∧ w.owner.t ≠ wu (w.owner.b - 1) then .cl 1 [.int .i64 (wi (doV w.m 1 (wi (2 + wi ((wu (w.owner.b - 1)).tmod (wu w.cap))))))] else .t .nils) else .t .nils
theorem inl_held {w : Wq} {a b : Bool} (hw : QOk w a b) (hc : wu w.cap ≠ 0) {R : V → Own → Prop} (hR : R (heldV w) (ownQ w a b)) : inl WD m38 108544 [.ptr 1001 0] (ownQ w a b) R := by
  have hq1 : (IsU (us w.m) ∧ Sz (us w.m)) := ⟨isU_us hw.m.1, hw.m.2⟩
  obtain ⟨m, cap, owner, thief, pushed, got, next⟩ := w
  have hR' : ∀ v, v = heldV ⟨m, cap, owner, thief, pushed, got, next⟩ → R v (ownQ ⟨m, cap, owner, thief, pushed, got, next⟩ a b) := fun v e => by rw [e]; exact hR
  unfold inl ownQ
  dsimp only at hq1 hc ⊢
  conv => whnf
  repeat' (first
    | (refine brK_true rfl ?_; conv => whnf)
    | (refine brK_false rfl ?_; conv => whnf)
    | (refine brK_true (by assumption) ?_; conv => whnf)
    | (refine brK_false (by assumption) ?_; conv => whnf)
    | (refine brK_true ?_ ?_; (focus (simp only [List.length_nil, fx] <;> omega)); conv => whnf)
    | (refine brK_false ?_ ?_; (focus (simp only [List.length_nil, fx] <;> omega)); conv => whnf)
    | ((refine brK_of (fun h => ?_) (fun h => ?_)) <;> (have h2 := h; (try simp only [List.length_nil, fx] at h2); conv => whnf))
    | (refine reqK_of ?_ ?_; (focus (first | decide | omega | assumption | (simp only [List.length_nil, fx] <;> omega) | (simp [keyNew, sameKey, kEq] <;> omega))); conv => whnf)
    | (refine reqK_of ?_ ?_; rotate_left; (conv => whnf); rotate_left)
    | (refine nth_us ?_ ?_ ?_; (focus (first | omega | (simp only [List.length_nil, fx] <;> omega))); (focus (first | omega | (simp only [List.length_nil, fx] <;> omega))); conv => whnf)
    | (refine nth_is ?_ ?_ ?_; (focus (first | omega | (simp only [List.length_nil, fx] <;> omega))); (focus (first | omega | (simp only [List.length_nil, fx] <;> omega))); conv => whnf)
    | (refine nth_bs ?_ ?_ ?_; (focus (first | omega | (simp only [List.length_nil, fx] <;> omega))); (focus (first | omega | (simp only [List.length_nil, fx] <;> omega))); conv => whnf))
  all_goals first
    | exact hc
    | exact hq1
    | (refine hR' _ ?_
       (try simp only [nums_us] at *)
       simp_all [heldV, oneV]
       done)
    | trace_state
theorem vrefs_held (w : Wq) : vRefs (heldV w) = [] := by
  unfold heldV
  repeat' split
  all_goals rfl
theorem held_cases {c : Int} {w : Wq} {na nb : Bool} {n : Nat} {lst t b : Int} {s : List Int} {E : Int} {H : List Int} (h : QI c w na nb n lst t b s E H) (hn : n ≤ 900) : (heldV w = .t .nils ∧ H = []) ∨ ∃ X, heldV w = .cl 1 [.int .i64 X] ∧ H = [X] := by
  have hb := own_b h.own
  have ht := h.t1
  have hc := h.c1
  have hx := h.nx
  have hwu : wu b = b := wu_sm ⟨by omega, by omega⟩
  have e1 : b + 1 - 1 = b := by omega
  have hm := h.m
  have hcap := h.cap
  have hsl := h.sln
  have hO := h.own
  unfold heldV
  generalize w.owner = o at hO
  cases hO with
  | idle _ h' => left; refine ⟨?_, rfl⟩; rw [if_neg (fun g => h' g.2)]
  | p0 B T x h hi => left; simp
  | p1 T x h hi => left; simp
  | p2 T x h hi hr => left; simp
  | p3 T x h hi hr hx => left; simp
  | q0 B T X => left; simp
  | q1 T X => left; simp
  | q2 T X => left; simp
  | q3r X h => left; simp [e1, hwu]
  | q3 T X h h2 h3 h4 =>
    right
    refine ⟨sl s c b, ?_, rfl⟩
    have hmod := mod_in (i := b) hc
    have hwc : wu w.cap = c := by rw [hcap]; exact wu_sm ⟨by omega, by omega⟩
    have hd : wi (2 + wi (b.tmod c)) = 2 + b % c := by
      rw [Int.tmod_eq_emod_of_nonneg (by omega), wi_sm (n := b % c) ⟨by omega, by omega⟩]
      exact wi_sm ⟨by omega, by omega⟩
    have hv : doV w.m 1 (2 + b % c) = sl s c b := by
      rw [hm, ← pl_c hc (by omega)]; exact ld_s hc hsl (by omega)
    have hne : ¬ T = b := by omega
    simp [e1, hwu, hne, hwc, hd, hv]
    exact wi_sm ⟨by omega, by omega⟩
  | q4 X h h2 => left; simp
  | q5 T X h => left; simp
  | q6 T X h h2 => right; exact ⟨X, by simp, rfl⟩
namespace G
noncomputable def lWE0 : List (Nat × (List T → Ans)) := (37, c37) :: lWD
noncomputable def iWE0 : List (Nat × Pt) := iWD
noncomputable abbrev WE0 : Env := En tgl lWE0 iWE0
theorem env_WE0 : EnvOk Try.prog WE0 := (env_fn env_WD (fun _ _ => got37) (fun vs p d sz xs h _ => (nogl37 vs p d sz xs h).elim) pk37)
end G
open G in
theorem envWE0 : EnvOk Try.prog G.WE0 := G.env_WE0
namespace Gq
open G
noncomputable def lWE : List (Nat × (List T → Ans)) := (30, c30) :: (16, c16) :: lWE0
noncomputable def iWE : List (Nat × Pt) := (38, inl WD m38) :: (1000038, ptNo) :: iWE0
noncomputable abbrev WE : Env := En tgl lWE iWE
theorem env_WE : EnvOk Try.prog WE := (env_fn (env_fn (env_in (env_flag env_WE0) env_WD Try.func38 low38) (fun _ _ => got16) (fun vs p d sz xs h _ => (nogl16 vs p d sz xs h).elim) pk16) (fun _ _ => got30) (fun vs p d sz xs h _ => (nogl30 vs p d sz xs h).elim) pk30)
theorem ptL_head {n : Nat} {g : Pt} {r : List (Nat × Pt)} {b : Nat} {a : List V} {o : Own} {R : V → Own → Prop} (h : g b a o R) : ptL ((n, g) :: r) n b a o R := by
  simp only [ptL]; rw [Nat.beq_refl]; exact h
theorem we_held {w : Wq} {a b : Bool} {v : V} (hw : QOk w a b) (hc : wu w.cap ≠ 0) (hv : heldV w = v) {args : List V} (ha : args = [.ptr 1001 0]) {base : Nat} (hb : base = 108544) : WE.pt 38 base args (ownQ w a b) (fun v' own' => v' = v ∧ own' = ownQ w a b) := by
  subst ha hb
  have e : WE.pt = ptL iWE := rfl
  rw [e]
  unfold iWE
  exact ptL_head (inl_held hw hc ⟨hv, rfl⟩)
theorem dr_held (w : Wq) (a b : Bool) {args : List V} (ha : args = [.ptr 1001 0]) {v : V} (hv : vRefs v = []) : DrOk args (ownQ w a b) (ownQ w a b) v := by
  subst ha
  refine ⟨hv, fun p hp => ?_, ?_, ?_⟩
  · simp only [ownQ, List.mem_cons, List.not_mem_nil, or_false] at hp
    rcases hp with rfl | rfl <;> exact rfl
  · unfold ownQ; rfl
  · unfold ownQ; rfl
theorem once_in {c : Int} {w : Wq} {na nb : Bool} {n : Nat} {lst t b : Int} {s : List Int} {E : Int} {H : List Int} (h : QI c w na nb n lst t b s E H) (hn : n ≤ 900) : (itm s c t E).length ≤ 4 ∧ ((itm s c t E).length : Int) ≤ c ∧ ∀ x ∈ itm s c t E, I64 x := by
  have ht := h.t1
  have hc := h.c1
  have hx := h.nx
  have hl := h.l0
  have e : (itm s c t E).length = (E - t).toNat := itR_len _ _ _ _
  refine ⟨by omega, by omega, fun x hx => ?_⟩
  obtain ⟨i, h1, h2, rfl⟩ := itR_mem hx
  have := h.it i h1 (by omega)
  unfold I64; omega
theorem ok12 (sz : Int) (xs : List T) (hq : R8 sz ∧ (IsB xs ∧ Szb8 xs)) : FnOk Try.prog tgl 12 [.int .u8 sz, .list 1 xs] (.bool true) := by
  refine fn_ok (Γ := WE) env_WE Try.func12 low12 ?_
  obtain ⟨hsz, ⟨⟨l, rfl, hl⟩, hs⟩⟩ := hq
  unfold R8 at hsz
  have hlen : l.length ≤ 140737488355328 := by unfold Szb8 maxBytes at hs; rw [bs_len] at hs; exact hs
  obtain ⟨c, hce⟩ : ∃ c : Int, c = IntKind.i64.wrap (1 + IntKind.i64.wrap (sz.tmod 4)) := ⟨_, rfl⟩
  have hc : 1 ≤ c ∧ c ≤ 4 := by
    have h1 : sz.tmod 4 = sz % 4 := Int.tmod_eq_emod_of_nonneg hsz.1
    have h2 : IntKind.i64.wrap (sz % 4) = sz % 4 := wi_sm ⟨by omega, by omega⟩
    have h3 : IntKind.i64.wrap (1 + sz % 4) = 1 + sz % 4 := wi_sm ⟨by omega, by omega⟩
    rw [h1, h2, h3] at hce; omega
  conv => whnf
  repeat' (first
    | (refine brK_true rfl ?_; conv => whnf)
    | (refine brK_false rfl ?_; conv => whnf)
    | (refine brK_true (by assumption) ?_; conv => whnf)
    | (refine brK_false (by assumption) ?_; conv => whnf)
    | (refine brK_true ?_ ?_; (focus (simp only [List.length_nil, fx] <;> omega)); conv => whnf)
    | (refine brK_false ?_ ?_; (focus (simp only [List.length_nil, fx] <;> omega)); conv => whnf)
    | ((refine brK_of (fun h => ?_) (fun h => ?_)) <;> (have h2 := h; (try simp only [List.length_nil, fx] at h2); conv => whnf))
    | (refine reqK_of ?_ ?_; (focus (first | decide | omega | assumption | (simp only [List.length_nil, fx] <;> omega) | (simp [keyNew, sameKey, kEq] <;> omega))); conv => whnf)
    | (refine reqK_of ?_ ?_; rotate_left; (conv => whnf); rotate_left)
    | (refine nth_us ?_ ?_ ?_; (focus (first | omega | (simp only [List.length_nil, fx] <;> omega))); (focus (first | omega | (simp only [List.length_nil, fx] <;> omega))); conv => whnf)
    | (refine nth_is ?_ ?_ ?_; (focus (first | omega | (simp only [List.length_nil, fx] <;> omega))); (focus (first | omega | (simp only [List.length_nil, fx] <;> omega))); conv => whnf)
    | (refine nth_bs ?_ ?_ ?_; (focus (first | omega | (simp only [List.length_nil, fx] <;> omega))); (focus (first | omega | (simp only [List.length_nil, fx] <;> omega))); conv => whnf))
  refine ⟨c, hc, by rw [hce]; rfl, rfl, ?_⟩
  conv => whnf
  repeat' (first
    | (refine brK_true rfl ?_; conv => whnf)
    | (refine brK_false rfl ?_; conv => whnf)
    | (refine brK_true (by assumption) ?_; conv => whnf)
    | (refine brK_false (by assumption) ?_; conv => whnf)
    | (refine brK_true ?_ ?_; (focus (simp only [List.length_nil, fx] <;> omega)); conv => whnf)
    | (refine brK_false ?_ ?_; (focus (simp only [List.length_nil, fx] <;> omega)); conv => whnf)
    | ((refine brK_of (fun h => ?_) (fun h => ?_)) <;> (have h2 := h; (try simp only [List.length_nil, fx] at h2); conv => whnf))
    | (refine reqK_of ?_ ?_; (focus (first | decide | omega | assumption | (simp only [List.length_nil, fx] <;> omega) | (simp [keyNew, sameKey, kEq] <;> omega))); conv => whnf)
    | (refine reqK_of ?_ ?_; rotate_left; (conv => whnf); rotate_left)
    | (refine nth_us ?_ ?_ ?_; (focus (first | omega | (simp only [List.length_nil, fx] <;> omega))); (focus (first | omega | (simp only [List.length_nil, fx] <;> omega))); conv => whnf)
    | (refine nth_is ?_ ?_ ?_; (focus (first | omega | (simp only [List.length_nil, fx] <;> omega))); (focus (first | omega | (simp only [List.length_nil, fx] <;> omega))); conv => whnf)
    | (refine nth_bs ?_ ?_ ?_; (focus (first | omega | (simp only [List.length_nil, fx] <;> omega))); (focus (first | omega | (simp only [List.length_nil, fx] <;> omega))); conv => whnf))
  refine loopSet [.ren 70 1001, .ren 1000000000000000000000000000005 1002] [.kill 8, .kill 17, .kill 18, .kill 19, .kill 20, .kill 21, .kill 22, .kill 23, .kill 24, .kill 25, .kill 26, .kill 27, .kill 28, .kill 29, .kill 30, .kill 31, .kill 32, .kill 33, .kill 34, .kill 35, .kill 36, .kill 37, .kill 38, .kill 39, .kill 40, .kill 41, .kill 42, .kill 43, .kill 44, .kill 45, .kill 46, .kill 47, .kill 48, .kill 49, .kill 50, .kill 51, .kill 52, .kill 53, .kill 54, .kill 55, .keep [1001, 1002]] (fun k : Nat => [(7, .t (.int .i64 (k : Int)))]) (fun k => ownQ (qN c l k).w (qN c l k).a (qN c l k).b) (fun k => k ≤ l.length ∧ k ≤ 400) (fun k => l.length - k) 0 ⟨Nat.zero_le _, by omega⟩ ?_
  conv => whnf
  refine ⟨⟨rfl, rfl⟩, fun k hk C hC => ?_⟩
  obtain ⟨hk1, hk2⟩ := hk
  obtain ⟨t0, b0, s0, E0, H0, hq0⟩ := qN_inv hc hl k (by omega) hk1
  have hok := hq0.ok (by omega)
  conv => whnf
  repeat' (first
    | (refine brK_true rfl ?_; conv => whnf)
    | (refine brK_false rfl ?_; conv => whnf)
    | (refine brK_true (by assumption) ?_; conv => whnf)
    | (refine brK_false (by assumption) ?_; conv => whnf)
    | (refine brK_true ?_ ?_; (focus (simp only [List.length_nil, fx] <;> omega)); conv => whnf)
    | (refine brK_false ?_ ?_; (focus (simp only [List.length_nil, fx] <;> omega)); conv => whnf)
    | ((refine brK_of (fun h => ?_) (fun h => ?_)) <;> (have h2 := h; (try simp only [List.length_nil, fx] at h2); conv => whnf))
    | (refine reqK_of ?_ ?_; (focus (first | decide | omega | assumption | (simp only [List.length_nil, fx] <;> omega) | (simp [keyNew, sameKey, kEq] <;> omega))); conv => whnf)
    | (refine reqK_of ?_ ?_; rotate_left; (conv => whnf); rotate_left)
    | (refine nth_us ?_ ?_ ?_; (focus (first | omega | (simp only [List.length_nil, fx] <;> omega))); (focus (first | omega | (simp only [List.length_nil, fx] <;> omega))); conv => whnf)
    | (refine nth_is ?_ ?_ ?_; (focus (first | omega | (simp only [List.length_nil, fx] <;> omega))); (focus (first | omega | (simp only [List.length_nil, fx] <;> omega))); conv => whnf)
    | (refine nth_bs ?_ ?_ ?_; (focus (first | omega | (simp only [List.length_nil, fx] <;> omega))); (focus (first | omega | (simp only [List.length_nil, fx] <;> omega))); conv => whnf))
  · rename_i hlt
    have hlt' : k < l.length ∧ k < 400 := by omega
    have hb : R8 (at0 l k) := hl _ (at0_mem (by simp; omega))
    have hC1 := hC (k + 1) ⟨by omega, by omega⟩ (by omega)
    have hw : IntKind.i64.wrap ((k : Int) + 1) = (k : Int) + 1 := wrap_i64 ⟨by omega, by omega⟩
    obtain ⟨t, b, s, E, H, hq⟩ := qN_inv hc hl (k + 1) (by omega) (by omega)
    refine ⟨(qN c l k).w, (qN c l k).a, (qN c l k).b, at0 l k, rfl, rfl, hb, hok, ?_⟩
    have e : ownQ (stepQ (qN c l k).w (at0 l k)) (nilA (qN c l k).w (qN c l k).a (at0 l k)) (nilB (qN c l k).w (qN c l k).b (at0 l k)) = ownQ (qN c l (k + 1)).w (qN c l (k + 1)).a (qN c l (k + 1)).b := rfl
    rw [e]
    generalize hQ : qN c l (k + 1) = Q at hq hC1 ⊢
    obtain ⟨w, qa, qb, lst⟩ := Q
    simp only at hq hC1 ⊢
    have hok2 := hq.ok (by omega)
    have hq1 : (IsU (us w.m) ∧ Sz (us w.m)) ∧ I64 w.cap := ⟨⟨isU_us hok2.m.1, hok2.m.2⟩, hok2.cap⟩
    have hIt := hq.items (by omega)
    obtain ⟨i1, i2, i3⟩ := once_in hq (by omega)
    have hIt2 : itemsE w.m 0 w.cap (popsB w.owner.kind w.owner.pc w.owner.b w.owner.t w.owner.out) = itm s c t E := by rw [hq.cap]; exact hIt
    have hcap := hq.cap
    have hwc : wu w.cap ≠ 0 := by rw [hcap, wu_sm ⟨by omega, by omega⟩]; omega
    have hperm := hq.perm
    obtain ⟨gI, gL⟩ := hq.gl
    have hpI := hok2.pu
    have hgI := hok2.go
    have hHI := hq.hd
    have hnx := hq.nx
    have hn0 : qa = true → w.pushed = [] := hq.nil.1
    have hn1 : qb = true → w.got = [] := hq.nil.2
    have hhc := held_cases hq (by omega)
    have hqH : ∀ H' : List Int, (∀ x ∈ H', I64 x) → H'.length ≤ 1 → (IsI (is (itemsE w.m 0 w.cap (popsB w.owner.kind w.owner.pc w.owner.b w.owner.t w.owner.out))) ∧ IsI (is H')) ∧ ((is (itemsE w.m 0 w.cap (popsB w.owner.kind w.owner.pc w.owner.b w.owner.t w.owner.out))).length + (is H').length) * 8 ≤ maxBytes := fun H' h1 h2 => by
      rw [hIt2, is_len, is_len]
      exact ⟨⟨isI_is i3, isI_is h1⟩, by unfold maxBytes; omega⟩
    have hqS : IsI (is (itemsE w.m 0 w.cap (popsB w.owner.kind w.owner.pc w.owner.b w.owner.t w.owner.out))) ∧ (is (itemsE w.m 0 w.cap (popsB w.owner.kind w.owner.pc w.owner.b w.owner.t w.owner.out))).length * 8 ≤ maxBytes := by
      rw [hIt2, is_len]
      exact ⟨isI_is i3, by unfold maxBytes; omega⟩
    have hbig : ∀ y : List Int, (∀ x ∈ y, I64 x) → y.length ≤ 10 → IsI (is (srt y)) ∧ (is (srt y)).length * 8 ≤ maxBytes := fun y h1 h2 => ⟨isI_srt h1, by rw [is_len, srt_len]; unfold maxBytes; omega⟩
    conv => whnf
    repeat' (first
      | (refine brK_true rfl ?_; conv => whnf)
      | (refine brK_false rfl ?_; conv => whnf)
      | (refine brK_true (by assumption) ?_; conv => whnf)
      | (refine brK_false (by assumption) ?_; conv => whnf)
      | (refine brK_true ?_ ?_; (focus (simp only [List.length_nil, fx] <;> omega)); conv => whnf)
      | (refine brK_false ?_ ?_; (focus (simp only [List.length_nil, fx] <;> omega)); conv => whnf)
      | ((refine brK_of (fun h => ?_) (fun h => ?_)) <;> (have h2 := h; (try simp only [List.length_nil, fx] at h2); conv => whnf))
      | (refine reqK_of ?_ ?_; (focus (first | decide | omega | assumption | (simp only [List.length_nil, fx] <;> omega) | (simp [keyNew, sameKey, kEq] <;> omega))); conv => whnf)
      | (refine reqK_of ?_ ?_; rotate_left; (conv => whnf); rotate_left)
      | (refine nth_us ?_ ?_ ?_; (focus (first | omega | (simp only [List.length_nil, fx] <;> omega))); (focus (first | omega | (simp only [List.length_nil, fx] <;> omega))); conv => whnf)
      | (refine nth_is ?_ ?_ ?_; (focus (first | omega | (simp only [List.length_nil, fx] <;> omega))); (focus (first | omega | (simp only [List.length_nil, fx] <;> omega))); conv => whnf)
      | (refine nth_bs ?_ ?_ ?_; (focus (first | omega | (simp only [List.length_nil, fx] <;> omega))); (focus (first | omega | (simp only [List.length_nil, fx] <;> omega))); conv => whnf))
    have hsubl : ∀ qa qb, ∀ p ∈ ownQ w qa qb, lkupK p.1 (ownQ w qa qb) fun b => b = p.2 := fun qa qb p hp => by
      simp only [ownQ, List.mem_cons, List.not_mem_nil, or_false] at hp
      rcases hp with rfl | rfl <;> exact rfl
    have hfin : eqNs (srt w.pushed) (srt (srt (srt (itm s c t E ++ H) ++ w.got))) = true := by
      unfold eqNs
      refine decide_eq_true (srt_eq.2 (perm_count.2 fun x => ?_))
      rw [hperm x, srt_count, List.count_append, srt_count, List.count_append]
    have hfin2 : w.got = [] → eqNs (srt w.pushed) (srt (srt (srt (itm s c t E ++ H) ++ []))) = true := fun e => by rw [e] at hfin; exact hfin
    have hfin3 : w.pushed = [] → eqNs (srt []) (srt (srt (srt (itm s c t E ++ H) ++ w.got))) = true := fun e => by rw [e] at hfin; exact hfin
    have hfin4 : w.pushed = [] → w.got = [] → eqNs (srt []) (srt (srt (srt (itm s c t E ++ H) ++ []))) = true := fun e e2 => by rw [e, e2] at hfin; exact hfin
    have hH1 : H.length ≤ 1 := by rcases hhc with ⟨_, rfl⟩ | ⟨X, _, rfl⟩ <;> simp
    have hH2 : ∀ x ∈ H, I64 x := fun x hx => by have := hHI x hx; unfold I64; omega
    have hlI : ∀ x ∈ itm s c t E ++ H, I64 x := fun x hx => by
      rcases List.mem_append.1 hx with h | h
      · exact i3 x h
      · exact hH2 x h
    have hlI2 : ∀ y : List Int, (∀ x ∈ y, I64 x) → ∀ x ∈ srt (itm s c t E ++ H) ++ y, I64 x := fun y hy x hx => by
      rcases List.mem_append.1 hx with h | h
      · exact hlI x (srt_mem.1 h)
      · exact hy x h
    have hlen1 : (itm s c t E ++ H).length ≤ 5 := by rw [List.length_append]; omega
    have hlen2 : ∀ y : List Int, y.length ≤ 1000 → (srt (itm s c t E ++ H) ++ y).length ≤ 1005 := fun y hy => by rw [List.length_append, srt_len]; omega
    have hS1 : (IsI (is (itm s c t E)) ∧ IsI (is H)) ∧ ((is (itm s c t E)).length + (is H).length) * 8 ≤ maxBytes := by
      rw [is_len, is_len]
      exact ⟨⟨isI_is i3, isI_is hH2⟩, by unfold maxBytes; omega⟩
    have hS1' : IsI (is (itm s c t E)) ∧ (is (itm s c t E)).length * 8 ≤ maxBytes := by
      rw [is_len]
      exact ⟨isI_is i3, by unfold maxBytes; omega⟩
    have hS2 : (IsI (is (srt (itm s c t E ++ H))) ∧ IsI (is w.got)) ∧ ((is (srt (itm s c t E ++ H))).length + (is w.got).length) * 8 ≤ maxBytes := by
      refine ⟨⟨isI_srt hlI, isI_is hgI.2.1⟩, ?_⟩
      rw [is_len, is_len, srt_len]; unfold maxBytes; have := hgI.2.2; omega
    have hS3 : IsI (is (srt (itm s c t E ++ H))) ∧ (is (srt (itm s c t E ++ H))).length * 8 ≤ maxBytes := by
      refine ⟨isI_srt hlI, ?_⟩
      rw [is_len, srt_len]; unfold maxBytes; omega
    have hM : ∀ y : List Int, (∀ x ∈ y, I64 x) → y.length ≤ 1000 → IsI (is (srt (srt (itm s c t E ++ H) ++ y))) ∧ SzB (is (srt (srt (itm s c t E ++ H) ++ y))) := fun y h1 h2 => by
      refine ⟨isI_srt (hlI2 y h1), ?_⟩
      have := hlen2 y h2
      unfold SzB maxBytes
      rw [is_len, srt_len]; omega
    have hP : IsI (is w.pushed) ∧ SzB (is w.pushed) := ⟨isI_is hpI.2.1, by unfold SzB maxBytes; rw [is_len]; have := hpI.2.2; omega⟩
    have hM1 := hM w.got hgI.2.1 hgI.2.2
    have hM2 := hM [] (fun x h => by cases h) (by simp)
    have n1 : ∀ X, nums [T.int .i64 X] = [X] := fun _ => rfl
    rcases hhc with ⟨hv, rfl⟩ | ⟨X, hv, rfl⟩
    · cases qa <;> cases qb
      · refine drK_of (ownQ w false false) (.t .nils) ⟨dr_held w false false rfl rfl, we_held hok2 hwc hv rfl rfl, ?_⟩
        have hff := hfin
        conv => whnf
        repeat' (first
          | (refine brK_true rfl ?_; conv => whnf)
          | (refine brK_false rfl ?_; conv => whnf)
          | (refine brK_true (by assumption) ?_; conv => whnf)
          | (refine brK_false (by assumption) ?_; conv => whnf)
          | (refine brK_true ?_ ?_; (focus (simp only [List.length_nil, fx, nums_us, hIt2, nums_is, is_len, n1, hff] <;> omega)); conv => whnf)
          | (refine brK_false ?_ ?_; (focus (simp only [List.length_nil, fx, nums_us, hIt2, nums_is, is_len, n1, hff] <;> omega)); conv => whnf)
          | ((refine brK_of (fun h => ?_) (fun h => ?_)) <;> (have h2 := h; (try simp only [List.length_nil, fx, nums_us, hIt2, nums_is, is_len, n1, hff] at h2); conv => whnf))
          | (refine reqK_of ?_ ?_; (focus (first | decide | omega | assumption | (simp only [List.length_nil, fx, nums_us, hIt2, nums_is, is_len, n1, hff] <;> omega) | (simp [keyNew, sameKey, kEq] <;> omega))); conv => whnf)
          | (refine reqK_of ?_ ?_; rotate_left; (conv => whnf); rotate_left)
          | (refine nth_us ?_ ?_ ?_; (focus (first | omega | (simp only [List.length_nil, fx, nums_us, hIt2, nums_is, is_len, n1, hff] <;> omega))); (focus (first | omega | (simp only [List.length_nil, fx, nums_us, hIt2, nums_is, is_len, n1, hff] <;> omega))); conv => whnf)
          | (refine nth_is ?_ ?_ ?_; (focus (first | omega | (simp only [List.length_nil, fx, nums_us, hIt2, nums_is, is_len, n1, hff] <;> omega))); (focus (first | omega | (simp only [List.length_nil, fx, nums_us, hIt2, nums_is, is_len, n1, hff] <;> omega))); conv => whnf)
          | (refine nth_bs ?_ ?_ ?_; (focus (first | omega | (simp only [List.length_nil, fx, nums_us, hIt2, nums_is, is_len, n1, hff] <;> omega))); (focus (first | omega | (simp only [List.length_nil, fx, nums_us, hIt2, nums_is, is_len, n1, hff] <;> omega))); conv => whnf))
        all_goals (try simp only [nums_us, hIt2, nums_is, n1])
        all_goals first
          | exact hS1
          | exact hS1'
          | exact hS2
          | exact hS3
          | exact ⟨hP, hM1⟩
          | exact ⟨hP, hM2⟩
          | exact hM1
          | exact hM2
          | (refine loopC hC1 ?_
             rw [hw, Int.natCast_succ]
             rfl)
          | trace_state
      · refine drK_of (ownQ w false true) (.t .nils) ⟨dr_held w false true rfl rfl, we_held hok2 hwc hv rfl rfl, ?_⟩
        have hff := hfin2 (hn1 rfl)
        conv => whnf
        repeat' (first
          | (refine brK_true rfl ?_; conv => whnf)
          | (refine brK_false rfl ?_; conv => whnf)
          | (refine brK_true (by assumption) ?_; conv => whnf)
          | (refine brK_false (by assumption) ?_; conv => whnf)
          | (refine brK_true ?_ ?_; (focus (simp only [List.length_nil, fx, nums_us, hIt2, nums_is, is_len, n1, hff] <;> omega)); conv => whnf)
          | (refine brK_false ?_ ?_; (focus (simp only [List.length_nil, fx, nums_us, hIt2, nums_is, is_len, n1, hff] <;> omega)); conv => whnf)
          | ((refine brK_of (fun h => ?_) (fun h => ?_)) <;> (have h2 := h; (try simp only [List.length_nil, fx, nums_us, hIt2, nums_is, is_len, n1, hff] at h2); conv => whnf))
          | (refine reqK_of ?_ ?_; (focus (first | decide | omega | assumption | (simp only [List.length_nil, fx, nums_us, hIt2, nums_is, is_len, n1, hff] <;> omega) | (simp [keyNew, sameKey, kEq] <;> omega))); conv => whnf)
          | (refine reqK_of ?_ ?_; rotate_left; (conv => whnf); rotate_left)
          | (refine nth_us ?_ ?_ ?_; (focus (first | omega | (simp only [List.length_nil, fx, nums_us, hIt2, nums_is, is_len, n1, hff] <;> omega))); (focus (first | omega | (simp only [List.length_nil, fx, nums_us, hIt2, nums_is, is_len, n1, hff] <;> omega))); conv => whnf)
          | (refine nth_is ?_ ?_ ?_; (focus (first | omega | (simp only [List.length_nil, fx, nums_us, hIt2, nums_is, is_len, n1, hff] <;> omega))); (focus (first | omega | (simp only [List.length_nil, fx, nums_us, hIt2, nums_is, is_len, n1, hff] <;> omega))); conv => whnf)
          | (refine nth_bs ?_ ?_ ?_; (focus (first | omega | (simp only [List.length_nil, fx, nums_us, hIt2, nums_is, is_len, n1, hff] <;> omega))); (focus (first | omega | (simp only [List.length_nil, fx, nums_us, hIt2, nums_is, is_len, n1, hff] <;> omega))); conv => whnf))
        all_goals (try simp only [nums_us, hIt2, nums_is, n1])
        all_goals first
          | exact hS1
          | exact hS1'
          | exact hS2
          | exact hS3
          | exact ⟨hP, hM1⟩
          | exact ⟨hP, hM2⟩
          | exact hM1
          | exact hM2
          | (refine loopC hC1 ?_
             rw [hw, Int.natCast_succ]
             rfl)
          | trace_state
      · refine drK_of (ownQ w true false) (.t .nils) ⟨dr_held w true false rfl rfl, we_held hok2 hwc hv rfl rfl, ?_⟩
        have hff := hfin3 (hn0 rfl)
        conv => whnf
        repeat' (first
          | (refine brK_true rfl ?_; conv => whnf)
          | (refine brK_false rfl ?_; conv => whnf)
          | (refine brK_true (by assumption) ?_; conv => whnf)
          | (refine brK_false (by assumption) ?_; conv => whnf)
          | (refine brK_true ?_ ?_; (focus (simp only [List.length_nil, fx, nums_us, hIt2, nums_is, is_len, n1, hff] <;> omega)); conv => whnf)
          | (refine brK_false ?_ ?_; (focus (simp only [List.length_nil, fx, nums_us, hIt2, nums_is, is_len, n1, hff] <;> omega)); conv => whnf)
          | ((refine brK_of (fun h => ?_) (fun h => ?_)) <;> (have h2 := h; (try simp only [List.length_nil, fx, nums_us, hIt2, nums_is, is_len, n1, hff] at h2); conv => whnf))
          | (refine reqK_of ?_ ?_; (focus (first | decide | omega | assumption | (simp only [List.length_nil, fx, nums_us, hIt2, nums_is, is_len, n1, hff] <;> omega) | (simp [keyNew, sameKey, kEq] <;> omega))); conv => whnf)
          | (refine reqK_of ?_ ?_; rotate_left; (conv => whnf); rotate_left)
          | (refine nth_us ?_ ?_ ?_; (focus (first | omega | (simp only [List.length_nil, fx, nums_us, hIt2, nums_is, is_len, n1, hff] <;> omega))); (focus (first | omega | (simp only [List.length_nil, fx, nums_us, hIt2, nums_is, is_len, n1, hff] <;> omega))); conv => whnf)
          | (refine nth_is ?_ ?_ ?_; (focus (first | omega | (simp only [List.length_nil, fx, nums_us, hIt2, nums_is, is_len, n1, hff] <;> omega))); (focus (first | omega | (simp only [List.length_nil, fx, nums_us, hIt2, nums_is, is_len, n1, hff] <;> omega))); conv => whnf)
          | (refine nth_bs ?_ ?_ ?_; (focus (first | omega | (simp only [List.length_nil, fx, nums_us, hIt2, nums_is, is_len, n1, hff] <;> omega))); (focus (first | omega | (simp only [List.length_nil, fx, nums_us, hIt2, nums_is, is_len, n1, hff] <;> omega))); conv => whnf))
        all_goals (try simp only [nums_us, hIt2, nums_is, n1])
        all_goals first
          | exact hS1
          | exact hS1'
          | exact hS2
          | exact hS3
          | exact ⟨hP, hM1⟩
          | exact ⟨hP, hM2⟩
          | exact hM1
          | exact hM2
          | (refine loopC hC1 ?_
             rw [hw, Int.natCast_succ]
             rfl)
          | trace_state
      · refine drK_of (ownQ w true true) (.t .nils) ⟨dr_held w true true rfl rfl, we_held hok2 hwc hv rfl rfl, ?_⟩
        have hff := hfin4 (hn0 rfl) (hn1 rfl)
        conv => whnf
        repeat' (first
          | (refine brK_true rfl ?_; conv => whnf)
          | (refine brK_false rfl ?_; conv => whnf)
          | (refine brK_true (by assumption) ?_; conv => whnf)
          | (refine brK_false (by assumption) ?_; conv => whnf)
          | (refine brK_true ?_ ?_; (focus (simp only [List.length_nil, fx, nums_us, hIt2, nums_is, is_len, n1, hff] <;> omega)); conv => whnf)
          | (refine brK_false ?_ ?_; (focus (simp only [List.length_nil, fx, nums_us, hIt2, nums_is, is_len, n1, hff] <;> omega)); conv => whnf)
          | ((refine brK_of (fun h => ?_) (fun h => ?_)) <;> (have h2 := h; (try simp only [List.length_nil, fx, nums_us, hIt2, nums_is, is_len, n1, hff] at h2); conv => whnf))
          | (refine reqK_of ?_ ?_; (focus (first | decide | omega | assumption | (simp only [List.length_nil, fx, nums_us, hIt2, nums_is, is_len, n1, hff] <;> omega) | (simp [keyNew, sameKey, kEq] <;> omega))); conv => whnf)
          | (refine reqK_of ?_ ?_; rotate_left; (conv => whnf); rotate_left)
          | (refine nth_us ?_ ?_ ?_; (focus (first | omega | (simp only [List.length_nil, fx, nums_us, hIt2, nums_is, is_len, n1, hff] <;> omega))); (focus (first | omega | (simp only [List.length_nil, fx, nums_us, hIt2, nums_is, is_len, n1, hff] <;> omega))); conv => whnf)
          | (refine nth_is ?_ ?_ ?_; (focus (first | omega | (simp only [List.length_nil, fx, nums_us, hIt2, nums_is, is_len, n1, hff] <;> omega))); (focus (first | omega | (simp only [List.length_nil, fx, nums_us, hIt2, nums_is, is_len, n1, hff] <;> omega))); conv => whnf)
          | (refine nth_bs ?_ ?_ ?_; (focus (first | omega | (simp only [List.length_nil, fx, nums_us, hIt2, nums_is, is_len, n1, hff] <;> omega))); (focus (first | omega | (simp only [List.length_nil, fx, nums_us, hIt2, nums_is, is_len, n1, hff] <;> omega))); conv => whnf))
        all_goals (try simp only [nums_us, hIt2, nums_is, n1])
        all_goals first
          | exact hS1
          | exact hS1'
          | exact hS2
          | exact hS3
          | exact ⟨hP, hM1⟩
          | exact ⟨hP, hM2⟩
          | exact hM1
          | exact hM2
          | (refine loopC hC1 ?_
             rw [hw, Int.natCast_succ]
             rfl)
          | trace_state
    · cases qa <;> cases qb
      · refine drK_of (ownQ w false false) (.cl 1 [.int .i64 X]) ⟨dr_held w false false rfl rfl, we_held hok2 hwc hv rfl rfl, ?_⟩
        have hff := hfin
        conv => whnf
        repeat' (first
          | (refine brK_true rfl ?_; conv => whnf)
          | (refine brK_false rfl ?_; conv => whnf)
          | (refine brK_true (by assumption) ?_; conv => whnf)
          | (refine brK_false (by assumption) ?_; conv => whnf)
          | (refine brK_true ?_ ?_; (focus (simp only [List.length_nil, fx, nums_us, hIt2, nums_is, is_len, n1, hff] <;> omega)); conv => whnf)
          | (refine brK_false ?_ ?_; (focus (simp only [List.length_nil, fx, nums_us, hIt2, nums_is, is_len, n1, hff] <;> omega)); conv => whnf)
          | ((refine brK_of (fun h => ?_) (fun h => ?_)) <;> (have h2 := h; (try simp only [List.length_nil, fx, nums_us, hIt2, nums_is, is_len, n1, hff] at h2); conv => whnf))
          | (refine reqK_of ?_ ?_; (focus (first | decide | omega | assumption | (simp only [List.length_nil, fx, nums_us, hIt2, nums_is, is_len, n1, hff] <;> omega) | (simp [keyNew, sameKey, kEq] <;> omega))); conv => whnf)
          | (refine reqK_of ?_ ?_; rotate_left; (conv => whnf); rotate_left)
          | (refine nth_us ?_ ?_ ?_; (focus (first | omega | (simp only [List.length_nil, fx, nums_us, hIt2, nums_is, is_len, n1, hff] <;> omega))); (focus (first | omega | (simp only [List.length_nil, fx, nums_us, hIt2, nums_is, is_len, n1, hff] <;> omega))); conv => whnf)
          | (refine nth_is ?_ ?_ ?_; (focus (first | omega | (simp only [List.length_nil, fx, nums_us, hIt2, nums_is, is_len, n1, hff] <;> omega))); (focus (first | omega | (simp only [List.length_nil, fx, nums_us, hIt2, nums_is, is_len, n1, hff] <;> omega))); conv => whnf)
          | (refine nth_bs ?_ ?_ ?_; (focus (first | omega | (simp only [List.length_nil, fx, nums_us, hIt2, nums_is, is_len, n1, hff] <;> omega))); (focus (first | omega | (simp only [List.length_nil, fx, nums_us, hIt2, nums_is, is_len, n1, hff] <;> omega))); conv => whnf))
        all_goals (try simp only [nums_us, hIt2, nums_is, n1])
        all_goals first
          | exact hS1
          | exact hS1'
          | exact hS2
          | exact hS3
          | exact ⟨hP, hM1⟩
          | exact ⟨hP, hM2⟩
          | exact hM1
          | exact hM2
          | (refine loopC hC1 ?_
             rw [hw, Int.natCast_succ]
             rfl)
          | trace_state
      · refine drK_of (ownQ w false true) (.cl 1 [.int .i64 X]) ⟨dr_held w false true rfl rfl, we_held hok2 hwc hv rfl rfl, ?_⟩
        have hff := hfin2 (hn1 rfl)
        conv => whnf
        repeat' (first
          | (refine brK_true rfl ?_; conv => whnf)
          | (refine brK_false rfl ?_; conv => whnf)
          | (refine brK_true (by assumption) ?_; conv => whnf)
          | (refine brK_false (by assumption) ?_; conv => whnf)
          | (refine brK_true ?_ ?_; (focus (simp only [List.length_nil, fx, nums_us, hIt2, nums_is, is_len, n1, hff] <;> omega)); conv => whnf)
          | (refine brK_false ?_ ?_; (focus (simp only [List.length_nil, fx, nums_us, hIt2, nums_is, is_len, n1, hff] <;> omega)); conv => whnf)
          | ((refine brK_of (fun h => ?_) (fun h => ?_)) <;> (have h2 := h; (try simp only [List.length_nil, fx, nums_us, hIt2, nums_is, is_len, n1, hff] at h2); conv => whnf))
          | (refine reqK_of ?_ ?_; (focus (first | decide | omega | assumption | (simp only [List.length_nil, fx, nums_us, hIt2, nums_is, is_len, n1, hff] <;> omega) | (simp [keyNew, sameKey, kEq] <;> omega))); conv => whnf)
          | (refine reqK_of ?_ ?_; rotate_left; (conv => whnf); rotate_left)
          | (refine nth_us ?_ ?_ ?_; (focus (first | omega | (simp only [List.length_nil, fx, nums_us, hIt2, nums_is, is_len, n1, hff] <;> omega))); (focus (first | omega | (simp only [List.length_nil, fx, nums_us, hIt2, nums_is, is_len, n1, hff] <;> omega))); conv => whnf)
          | (refine nth_is ?_ ?_ ?_; (focus (first | omega | (simp only [List.length_nil, fx, nums_us, hIt2, nums_is, is_len, n1, hff] <;> omega))); (focus (first | omega | (simp only [List.length_nil, fx, nums_us, hIt2, nums_is, is_len, n1, hff] <;> omega))); conv => whnf)
          | (refine nth_bs ?_ ?_ ?_; (focus (first | omega | (simp only [List.length_nil, fx, nums_us, hIt2, nums_is, is_len, n1, hff] <;> omega))); (focus (first | omega | (simp only [List.length_nil, fx, nums_us, hIt2, nums_is, is_len, n1, hff] <;> omega))); conv => whnf))
        all_goals (try simp only [nums_us, hIt2, nums_is, n1])
        all_goals first
          | exact hS1
          | exact hS1'
          | exact hS2
          | exact hS3
          | exact ⟨hP, hM1⟩
          | exact ⟨hP, hM2⟩
          | exact hM1
          | exact hM2
          | (refine loopC hC1 ?_
             rw [hw, Int.natCast_succ]
             rfl)
          | trace_state
      · refine drK_of (ownQ w true false) (.cl 1 [.int .i64 X]) ⟨dr_held w true false rfl rfl, we_held hok2 hwc hv rfl rfl, ?_⟩
        have hff := hfin3 (hn0 rfl)
        conv => whnf
        repeat' (first
          | (refine brK_true rfl ?_; conv => whnf)
          | (refine brK_false rfl ?_; conv => whnf)
          | (refine brK_true (by assumption) ?_; conv => whnf)
          | (refine brK_false (by assumption) ?_; conv => whnf)
          | (refine brK_true ?_ ?_; (focus (simp only [List.length_nil, fx, nums_us, hIt2, nums_is, is_len, n1, hff] <;> omega)); conv => whnf)
          | (refine brK_false ?_ ?_; (focus (simp only [List.length_nil, fx, nums_us, hIt2, nums_is, is_len, n1, hff] <;> omega)); conv => whnf)
          | ((refine brK_of (fun h => ?_) (fun h => ?_)) <;> (have h2 := h; (try simp only [List.length_nil, fx, nums_us, hIt2, nums_is, is_len, n1, hff] at h2); conv => whnf))
          | (refine reqK_of ?_ ?_; (focus (first | decide | omega | assumption | (simp only [List.length_nil, fx, nums_us, hIt2, nums_is, is_len, n1, hff] <;> omega) | (simp [keyNew, sameKey, kEq] <;> omega))); conv => whnf)
          | (refine reqK_of ?_ ?_; rotate_left; (conv => whnf); rotate_left)
          | (refine nth_us ?_ ?_ ?_; (focus (first | omega | (simp only [List.length_nil, fx, nums_us, hIt2, nums_is, is_len, n1, hff] <;> omega))); (focus (first | omega | (simp only [List.length_nil, fx, nums_us, hIt2, nums_is, is_len, n1, hff] <;> omega))); conv => whnf)
          | (refine nth_is ?_ ?_ ?_; (focus (first | omega | (simp only [List.length_nil, fx, nums_us, hIt2, nums_is, is_len, n1, hff] <;> omega))); (focus (first | omega | (simp only [List.length_nil, fx, nums_us, hIt2, nums_is, is_len, n1, hff] <;> omega))); conv => whnf)
          | (refine nth_bs ?_ ?_ ?_; (focus (first | omega | (simp only [List.length_nil, fx, nums_us, hIt2, nums_is, is_len, n1, hff] <;> omega))); (focus (first | omega | (simp only [List.length_nil, fx, nums_us, hIt2, nums_is, is_len, n1, hff] <;> omega))); conv => whnf))
        all_goals (try simp only [nums_us, hIt2, nums_is, n1])
        all_goals first
          | exact hS1
          | exact hS1'
          | exact hS2
          | exact hS3
          | exact ⟨hP, hM1⟩
          | exact ⟨hP, hM2⟩
          | exact hM1
          | exact hM2
          | (refine loopC hC1 ?_
             rw [hw, Int.natCast_succ]
             rfl)
          | trace_state
      · refine drK_of (ownQ w true true) (.cl 1 [.int .i64 X]) ⟨dr_held w true true rfl rfl, we_held hok2 hwc hv rfl rfl, ?_⟩
        have hff := hfin4 (hn0 rfl) (hn1 rfl)
        conv => whnf
        repeat' (first
          | (refine brK_true rfl ?_; conv => whnf)
          | (refine brK_false rfl ?_; conv => whnf)
          | (refine brK_true (by assumption) ?_; conv => whnf)
          | (refine brK_false (by assumption) ?_; conv => whnf)
          | (refine brK_true ?_ ?_; (focus (simp only [List.length_nil, fx, nums_us, hIt2, nums_is, is_len, n1, hff] <;> omega)); conv => whnf)
          | (refine brK_false ?_ ?_; (focus (simp only [List.length_nil, fx, nums_us, hIt2, nums_is, is_len, n1, hff] <;> omega)); conv => whnf)
          | ((refine brK_of (fun h => ?_) (fun h => ?_)) <;> (have h2 := h; (try simp only [List.length_nil, fx, nums_us, hIt2, nums_is, is_len, n1, hff] at h2); conv => whnf))
          | (refine reqK_of ?_ ?_; (focus (first | decide | omega | assumption | (simp only [List.length_nil, fx, nums_us, hIt2, nums_is, is_len, n1, hff] <;> omega) | (simp [keyNew, sameKey, kEq] <;> omega))); conv => whnf)
          | (refine reqK_of ?_ ?_; rotate_left; (conv => whnf); rotate_left)
          | (refine nth_us ?_ ?_ ?_; (focus (first | omega | (simp only [List.length_nil, fx, nums_us, hIt2, nums_is, is_len, n1, hff] <;> omega))); (focus (first | omega | (simp only [List.length_nil, fx, nums_us, hIt2, nums_is, is_len, n1, hff] <;> omega))); conv => whnf)
          | (refine nth_is ?_ ?_ ?_; (focus (first | omega | (simp only [List.length_nil, fx, nums_us, hIt2, nums_is, is_len, n1, hff] <;> omega))); (focus (first | omega | (simp only [List.length_nil, fx, nums_us, hIt2, nums_is, is_len, n1, hff] <;> omega))); conv => whnf)
          | (refine nth_bs ?_ ?_ ?_; (focus (first | omega | (simp only [List.length_nil, fx, nums_us, hIt2, nums_is, is_len, n1, hff] <;> omega))); (focus (first | omega | (simp only [List.length_nil, fx, nums_us, hIt2, nums_is, is_len, n1, hff] <;> omega))); conv => whnf))
        all_goals (try simp only [nums_us, hIt2, nums_is, n1])
        all_goals first
          | exact hS1
          | exact hS1'
          | exact hS2
          | exact hS3
          | exact ⟨hP, hM1⟩
          | exact ⟨hP, hM2⟩
          | exact hM1
          | exact hM2
          | (refine loopC hC1 ?_
             rw [hw, Int.natCast_succ]
             rfl)
          | trace_state
  all_goals trace_state
open Classical in
noncomputable def c12 : List T → Ans
  | [.int .u8 sz, .list 1 xs] => .req (R8 sz ∧ (IsB xs ∧ Szb8 xs)) (.bool true)
  | _ => .no
theorem got12 {vs : List T} {x : T} (h : Got (c12 vs) x) : FnOk Try.prog tgl 12 vs x := by
  unfold c12 at h
  split at h
  · obtain ⟨hq, e⟩ := got_req h; rw [e]; exact ok12 _ _ hq
  · exact (got_no h).elim
theorem nogl12 (vs : List T) (p : Prop) (d : Decidable p) (sz : Nat) (xs : List T) (h : c12 vs = @Ans.gl p d sz xs) : False := by
  unfold c12 at h
  split at h <;> cases h
theorem pk12 (vs : List T) (p : Prop) (d : Decidable p) (x : T) (h : c12 vs = @Ans.pk p d x) (hp : p) : FnOk Try.prog tgl 12 vs x := by
  unfold c12 at h
  split at h
  · cases h
  · cases h
end Gq
end Go.Nx
