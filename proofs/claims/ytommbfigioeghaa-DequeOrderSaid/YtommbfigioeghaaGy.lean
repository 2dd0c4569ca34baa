/-
  DEQUES: WHO STOPS: walked.
-/
import Derived.Test.YtommbfigioeghaaGx
import Derived.Test.YtommbfigioeghaaGp
import Derived.Test.YtommbfigioeghaaXz
import Derived.Test.YtommbfigioeghaaYd
set_option linter.unusedVariables false
set_option linter.unusedSimpArgs false
set_option maxRecDepth 100000
set_option maxHeartbeats 16000000
namespace Go.Nx
open Go.RowKit Go.Proofs

def Szb8 (xs : List T) : Prop := xs.length ≤ maxBytes
def stK : Nat := 1000000000000000000000000000005
def stV (c : Int) : V := .agg [.t (.list 1 (us (w0 c).m)), .t (.int .i64 c), .t (.int .i64 0), .t (.int .i64 0), .t (.int .i64 0), .t (.int .i64 0), .t (.int .u64 0), .t (.int .u64 0), .t (.int .i64 0), .t (.int .i64 1), .sl stK 0 none, .t .nils, .t .nils, .t (.int .i64 1)]
def stO (c : Int) : Own := [(stK, .lst 8 (ds (w0 c).thief) 0)]
noncomputable abbrev ED : EnvE := envE tgl (fun _ _ => .no) tabD 1000 20
theorem st1 : inE ED 1000 m34 0 [.t (.int .i64 1)] [] = some (stV 1, stO 1) := by kernel_rfl
theorem st2 : inE ED 1000 m34 0 [.t (.int .i64 2)] [] = some (stV 2, stO 2) := by kernel_rfl
theorem st3 : inE ED 1000 m34 0 [.t (.int .i64 3)] [] = some (stV 3, stO 3) := by kernel_rfl
theorem st4 : inE ED 1000 m34 0 [.t (.int .i64 4)] [] = some (stV 4, stO 4) := by kernel_rfl
theorem stA {c : Int} (hc : 1 ≤ c ∧ c ≤ 4) : inE ED 1000 m34 0 [.t (.int .i64 c)] [] = some (stV c, stO c) := by
  have : c = 1 ∨ c = 2 ∨ c = 3 ∨ c = 4 := by omega
  rcases this with rfl | rfl | rfl | rfl
  · exact st1
  · exact st2
  · exact st3
  · exact st4
def ptStart : Pt := fun base args own R => ∃ c : Int, (1 ≤ c ∧ c ≤ 4) ∧ args = [.t (.int .i64 c)] ∧ own = [] ∧ R (stV c) (stO c)
theorem ptStart_ok (base : Nat) (args : List V) (own : Own) (R : V → Own → Prop) (h : ptStart base args own R) : FnV Try.prog tgl 34 args own R := by
  obtain ⟨c, hc, rfl, rfl, h⟩ := h
  have := inl_ok (P := Try.prog) (envE_ok (gl := tgl) (ext := fun _ _ => .no) (tab := tabD) (fuel := 1000) extNo tabD_ok 20) Try.func34 low34 (inE_ok (stA hc) h)
  exact this
noncomputable def lWD0 : List (Nat × (List T → Ans)) := lWC
noncomputable def iWD0 : List (Nat × Pt) := (34, ptStart) :: iWC
noncomputable abbrev WD0 : Env := En tgl lWD0 iWD0
theorem env_WD0 : EnvOk Try.prog WD0 := env_ptB env_WC ptStart_ok
noncomputable def lWD : List (Nat × (List T → Ans)) := (33, c33) :: (36, c36) :: lWD0
noncomputable def iWD : List (Nat × Pt) := iWD0
noncomputable abbrev WD : Env := En tgl lWD iWD
theorem env_WD : EnvOk Try.prog WD := (env_fn (env_fn env_WD0 (fun _ _ => got36) (fun vs p d sz xs h _ => (nogl36 vs p d sz xs h).elim) pk36) (fun _ _ => got33) (fun vs p d sz xs h _ => (nogl33 vs p d sz xs h).elim) pk33)
theorem ownQ_0 (c : Int) : ownQ (w0 c) true true = [(1001, .cells [.t (.list 1 (us (w0 c).m)), .t (.int .i64 c), .t (.int .i64 0), .t (.int .i64 0), .t (.int .i64 0), .t (.int .i64 0), .t (.int .u64 0), .t (.int .u64 0), .t (.int .i64 0), .t (.int .i64 1), .sl 1002 0 none, .t .nils, .t .nils, .t (.int .i64 1)]), (1002, .lst 8 (ds (w0 c).thief) 0)] := rfl
/-! who goes on alone -/
def limD (d : DM) : Int := if d.kind = 2 then 7 else 4
def StOk (d : DM) : Prop := d.out = 0 → (d.kind = 1 ∨ d.kind = 2 ∨ d.kind = 3) ∧ 0 ≤ d.pc ∧ d.pc < limD d
theorem st_step {m : List Int} {d : DM} (h : StOk d) (ho : d.out = 0) : StOk (dstep m d).2 ∧ d.pc < (dstep m d).2.pc ∧ (dstep m d).2.kind = d.kind := by
  refine ⟨?_, ?_, (dstep_keep m d).1⟩
  · intro ho2
    unfold limD
    rw [(dstep_keep m d).1]
    obtain ⟨hk, h0, h1⟩ := h ho
    refine ⟨hk, ?_⟩
    unfold limD at h1
    obtain ⟨k, pc, base, cap, B, T, x, out⟩ := d
    simp only at *
    subst ho
    rcases hk with rfl | rfl | rfl
    · have : pc = 0 ∨ pc = 1 ∨ pc = 2 ∨ pc = 3 := by simp at h1; omega
      rcases this with rfl | rfl | rfl | rfl <;> simp [dstep] at ho2 ⊢
    · have : pc = 0 ∨ pc = 1 ∨ pc = 2 ∨ pc = 3 ∨ pc = 4 ∨ pc = 5 ∨ pc = 6 := by simp at h1; omega
      rcases this with rfl | rfl | rfl | rfl | rfl | rfl | rfl <;> simp [dstep] at ho2 ⊢
      · split <;> omega
      · split <;> omega
    · have : pc = 0 ∨ pc = 1 ∨ pc = 2 ∨ pc = 3 := by simp at h1; omega
      rcases this with rfl | rfl | rfl | rfl <;> simp [dstep] at ho2 ⊢
      · split at ho2 <;> simp at ho2
  · obtain ⟨hk, h0, h1⟩ := h ho
    unfold limD at h1
    obtain ⟨k, pc, base, cap, B, T, x, out⟩ := d
    simp only at *
    subst ho
    rcases hk with rfl | rfl | rfl
    · have : pc = 0 ∨ pc = 1 ∨ pc = 2 ∨ pc = 3 := by simp at h1; omega
      rcases this with rfl | rfl | rfl | rfl <;> simp [dstep]
    · have : pc = 0 ∨ pc = 1 ∨ pc = 2 ∨ pc = 3 ∨ pc = 4 ∨ pc = 5 ∨ pc = 6 := by simp at h1; omega
      rcases this with rfl | rfl | rfl | rfl | rfl | rfl | rfl <;> simp [dstep]
      · split <;> omega
      · split <;> omega
    · have : pc = 0 ∨ pc = 1 ∨ pc = 2 ∨ pc = 3 := by simp at h1; omega
      rcases this with rfl | rfl | rfl | rfl <;> simp [dstep]
      · split <;> simp
theorem st_N {m : List Int} {d : DM} (h : StOk d) : ∀ k, StOk (dN m d k).2 ∧ (dN m d k).2.kind = d.kind ∧ ((∀ j, j < k → (dN m d j).2.out = 0) → d.pc + k ≤ (dN m d k).2.pc)
  | 0 => ⟨h, rfl, fun _ => by simp [dN]⟩
  | k + 1 => by
    obtain ⟨h1, h2, h3⟩ := st_N (m := m) h k
    by_cases ho : (dN m d k).2.out = 0
    · obtain ⟨g1, g2, g3⟩ := st_step (m := (dN m d k).1) h1 ho
      refine ⟨g1, by rw [dN, g3, h2], fun hj => ?_⟩
      have := h3 fun j hj' => hj j (by omega)
      rw [dN]; omega
    · refine ⟨?_, ?_, fun hj => absurd (hj k (by omega)) ho⟩
      · rw [dN, dstep_no ho]; exact h1
      · rw [dN, dstep_no ho]; exact h2
theorem dgoK_spec (m : List Int) (d : DM) : ∀ f k, (∀ j, j < k → (dN m d j).2.out = 0) → k ≤ dgoK m d f k ∧ dgoK m d f k ≤ k + f ∧ (∀ j, j < dgoK m d f k → (dN m d j).2.out = 0) ∧ ((dN m d (dgoK m d f k)).2.out ≠ 0 ∨ dgoK m d f k = k + f)
  | 0, k, h => ⟨Nat.le_refl _, by simp [dgoK], by simpa [dgoK] using h, .inr rfl⟩
  | f + 1, k, h => by
    unfold dgoK
    split
    · rename_i e
      have h' : ∀ j, j < k + 1 → (dN m d j).2.out = 0 := fun j hj => by
        rcases Nat.lt_succ_iff_lt_or_eq.1 hj with g | g
        · exact h j g
        · subst g; exact e
      obtain ⟨a, b, c, g⟩ := dgoK_spec m d f (k + 1) h'
      exact ⟨by omega, by omega, c, by rcases g with g | g; exact .inl g; exact .inr (by omega)⟩
    · rename_i e
      exact ⟨Nat.le_refl _, by omega, h, .inl e⟩
/-- alone it comes to its end -/
theorem stops {m : List Int} {d : DM} (h : StOk d) (most : Int) (hm : limD d ≤ most) (hm0 : 0 ≤ most) : (dN m d (drunK m d most)).2.out ≠ 0 ∧ (drunK m d most : Int) ≤ most ∧ (d.out = 0 → d.pc < (dN m d (drunK m d most)).2.pc) := by
  obtain ⟨a, b, c, g⟩ := dgoK_spec m d most.toNat 0 (fun j hj => by omega)
  obtain ⟨h1, h2, h3⟩ := st_N (m := m) h (drunK m d most)
  have h4 := h3 c
  have ho : (dN m d (drunK m d most)).2.out ≠ 0 := by
    rcases g with g | g
    · exact g
    · intro ho
      obtain ⟨k1, k2, k3⟩ := h1 ho
      have : limD (dN m d (drunK m d most)).2 = limD d := by unfold limD; rw [h2]
      by_cases h0 : d.out = 0
      · obtain ⟨j1, j2, j3⟩ := h h0
        have : drunK m d most = most.toNat := by unfold drunK; omega
        omega
      · have : drunK m d most = 0 := by
          unfold drunK
          cases most.toNat with
          | zero => rfl
          | succ n => unfold dgoK; exact if_neg h0
        rw [this] at ho
        exact h0 ho
  refine ⟨ho, by unfold drunK; omega, fun h0 => ?_⟩
  have : 0 < drunK m d most := by
    rcases Nat.eq_zero_or_pos (drunK m d most) with e | e
    · rw [e] at ho; exact absurd h0 ho
    · exact e
  omega
theorem th_st {c t E : Int} {s : List Int} {d : DM} (h : ThI c t E s d) : StOk d ∧ limD d = 4 ∧ d.out = 0 := by
  obtain ⟨h1, h2, h3, h4, h5⟩ := h
  have hl : limD d = 4 := by unfold limD; rw [h1]; rfl
  refine ⟨fun _ => ⟨.inr (.inr h1), ?_⟩, hl, h4⟩
  rw [hl]
  rcases h5 with h | ⟨h, _⟩ | ⟨h, _⟩ | ⟨h, _⟩ <;> omega
theorem ow_st {c t b nx E : Int} {s : List Int} {o : DM} {H : List Int} (h : OwI c t b nx s o E H) : StOk o ∧ limD o ≤ 7 := by
  refine ⟨?_, by unfold limD; split <;> omega⟩
  intro ho
  unfold limD
  cases h with
  | idle _ h => exact absurd ho h
  | _ => simp
theorem ok10 (sz : Int) (xs : List T) (who : Int) (hq : R8 sz ∧ (IsB xs ∧ Szb8 xs) ∧ R8 who) : FnOk Try.prog tgl 10 [.int .u8 sz, .list 1 xs, .int .u8 who] (.bool true) := by
  refine fn_ok (Γ := WD) env_WD Try.func10 low10 ?_
  obtain ⟨hsz, ⟨⟨l, rfl, hl⟩, hs⟩, hwho⟩ := hq
  unfold R8 at hsz hwho
  have hlen : l.length ≤ 140737488355328 := by unfold Szb8 maxBytes at hs; rw [bs_len] at hs; exact hs
  obtain ⟨c, hce⟩ : ∃ c : Int, c = IntKind.i64.wrap (1 + IntKind.i64.wrap (sz.tmod 4)) := ⟨_, rfl⟩
  have hc : 1 ≤ c ∧ c ≤ 4 := by
    have h1 : sz.tmod 4 = sz % 4 := Int.tmod_eq_emod_of_nonneg hsz.1
    have h2 : IntKind.i64.wrap (sz % 4) = sz % 4 := wi_sm ⟨by omega, by omega⟩
    have h3 : IntKind.i64.wrap (1 + sz % 4) = 1 + sz % 4 := wi_sm ⟨by omega, by omega⟩
    rw [h1, h2, h3] at hce; omega
  conv => whnf
  repeat' (first
    | (refine brK_true rfl ?_; conv => whnf)
    | (refine brK_false rfl ?_; conv => whnf)
    | (refine brK_true (by assumption) ?_; conv => whnf)
    | (refine brK_false (by assumption) ?_; conv => whnf)
    | (refine brK_true ?_ ?_; (focus (simp only [List.length_nil, fx] <;> omega)); conv => whnf)
    | (refine brK_false ?_ ?_; (focus (simp only [List.length_nil, fx] <;> omega)); conv => whnf)
    | ((refine brK_of (fun h => ?_) (fun h => ?_)) <;> (have h2 := h; (try simp only [List.length_nil, fx] at h2); conv => whnf))
    | (refine reqK_of ?_ ?_; (focus (first | decide | omega | assumption | (simp only [List.length_nil, fx] <;> omega) | (simp [keyNew, sameKey, kEq] <;> omega))); conv => whnf)
    | (refine reqK_of ?_ ?_; rotate_left; (conv => whnf); rotate_left)
    | (refine nth_us ?_ ?_ ?_; (focus (first | omega | (simp only [List.length_nil, fx] <;> omega))); (focus (first | omega | (simp only [List.length_nil, fx] <;> omega))); conv => whnf)
    | (refine nth_is ?_ ?_ ?_; (focus (first | omega | (simp only [List.length_nil, fx] <;> omega))); (focus (first | omega | (simp only [List.length_nil, fx] <;> omega))); conv => whnf)
    | (refine nth_bs ?_ ?_ ?_; (focus (first | omega | (simp only [List.length_nil, fx] <;> omega))); (focus (first | omega | (simp only [List.length_nil, fx] <;> omega))); conv => whnf))
  refine ⟨c, hc, by rw [hce]; rfl, rfl, ?_⟩
  conv => whnf
  repeat' (first
    | (refine brK_true rfl ?_; conv => whnf)
    | (refine brK_false rfl ?_; conv => whnf)
    | (refine brK_true (by assumption) ?_; conv => whnf)
    | (refine brK_false (by assumption) ?_; conv => whnf)
    | (refine brK_true ?_ ?_; (focus (simp only [List.length_nil, fx] <;> omega)); conv => whnf)
    | (refine brK_false ?_ ?_; (focus (simp only [List.length_nil, fx] <;> omega)); conv => whnf)
    | ((refine brK_of (fun h => ?_) (fun h => ?_)) <;> (have h2 := h; (try simp only [List.length_nil, fx] at h2); conv => whnf))
    | (refine reqK_of ?_ ?_; (focus (first | decide | omega | assumption | (simp only [List.length_nil, fx] <;> omega) | (simp [keyNew, sameKey, kEq] <;> omega))); conv => whnf)
    | (refine reqK_of ?_ ?_; rotate_left; (conv => whnf); rotate_left)
    | (refine nth_us ?_ ?_ ?_; (focus (first | omega | (simp only [List.length_nil, fx] <;> omega))); (focus (first | omega | (simp only [List.length_nil, fx] <;> omega))); conv => whnf)
    | (refine nth_is ?_ ?_ ?_; (focus (first | omega | (simp only [List.length_nil, fx] <;> omega))); (focus (first | omega | (simp only [List.length_nil, fx] <;> omega))); conv => whnf)
    | (refine nth_bs ?_ ?_ ?_; (focus (first | omega | (simp only [List.length_nil, fx] <;> omega))); (focus (first | omega | (simp only [List.length_nil, fx] <;> omega))); conv => whnf))
  refine loopSet [.ren 72 1001, .ren 1000000000000000000000000000005 1002] [.kill 23, .kill 24, .kill 25, .kill 26, .kill 27, .kill 28, .kill 29, .kill 30, .kill 31, .kill 32, .kill 33, .kill 34, .kill 35, .kill 36, .kill 37, .keep [1001, 1002]] (fun k : Nat => [(9, .t (.int .i64 (k : Int)))]) (fun k => ownQ (qN c l k).w (qN c l k).a (qN c l k).b) (fun k => k ≤ l.length ∧ k ≤ 200) (fun k => l.length - k) 0 ⟨Nat.zero_le _, by omega⟩ ?_
  conv => whnf
  refine ⟨⟨rfl, rfl⟩, fun k hk C hC => ?_⟩
  obtain ⟨hk1, hk2⟩ := hk
  obtain ⟨t, b, s, E, H, hq⟩ := qN_inv hc hl k (by omega) hk1
  have hok := hq.ok (by omega)
  have hdm : ∀ j : Nat, j < 3 → dAt (qN c l k).w.thief j ∈ (qN c l k).w.thief := fun j hj => by simp [dAt, show j < (qN c l k).w.thief.length by rw [hq.th3]; exact hj]
  have hw4 : who.tmod 4 = who % 4 := Int.tmod_eq_emod_of_nonneg hwho.1
  have h3 := hq.th3
  have hwn : ((Nat.add 0 (who % 4).toNat : Nat) : Int) = who % 4 := by simp; omega
  have hDm : who % 4 < 3 → dAt (qN c l k).w.thief ((Nat.add 0 (who.tmod 4).toNat : Nat) : Int) ∈ (qN c l k).w.thief := fun h => hdm _ (by rw [hw4]; simp; omega)
  have hST : who % 4 < 3 → _ := fun h => stops (m := (qN c l k).w.m) (th_st (hq.th _ (hDm h))).1 4 (by rw [(th_st (hq.th _ (hDm h))).2.1]; omega) (by omega)
  have hSO := stops (m := (qN c l k).w.m) (ow_st hq.own).1 7 (ow_st hq.own).2 (by omega)
  have hqT : who % 4 < 3 → (((IsU (us (qN c l k).w.m) ∧ Sz (us (qN c l k).w.m)) ∧ I64 (dAt (qN c l k).w.thief ((Nat.add 0 (who.tmod 4).toNat : Nat) : Int)).cap) ∧ R64 (dAt (qN c l k).w.thief ((Nat.add 0 (who.tmod 4).toNat : Nat) : Int)).b ∧ R64 (dAt (qN c l k).w.thief ((Nat.add 0 (who.tmod 4).toNat : Nat) : Int)).t) ∧ (4 : Int) ≤ 1000 := fun h =>
    ⟨⟨⟨⟨isU_us hok.m.1, hok.m.2⟩, (hok.tcap _ (hDm h)).1⟩, (hq.tR _ (hDm h)).1, (hq.tR _ (hDm h)).2.1⟩, by omega⟩
  have hqO : (((IsU (us (qN c l k).w.m) ∧ Sz (us (qN c l k).w.m)) ∧ I64 (qN c l k).w.owner.cap) ∧ R64 (qN c l k).w.owner.b ∧ R64 (qN c l k).w.owner.t) ∧ (7 : Int) ≤ 1000 :=
    ⟨⟨⟨⟨isU_us hok.m.1, hok.m.2⟩, hok.ocap.1⟩, hq.oR.1, hq.oR.2.1⟩, by omega⟩
  conv => whnf
  repeat' (first
    | (refine brK_true rfl ?_; conv => whnf)
    | (refine brK_false rfl ?_; conv => whnf)
    | (refine brK_true (by assumption) ?_; conv => whnf)
    | (refine brK_false (by assumption) ?_; conv => whnf)
    | (refine brK_true ?_ ?_; (focus (simp only [List.length_nil, fx, hw4, ds_len, h3, hwn] <;> omega)); conv => whnf)
    | (refine brK_false ?_ ?_; (focus (simp only [List.length_nil, fx, hw4, ds_len, h3, hwn] <;> omega)); conv => whnf)
    | ((refine brK_of (fun h => ?_) (fun h => ?_)) <;> (have h2 := h; (try simp only [List.length_nil, fx, hw4, ds_len, h3, hwn] at h2); conv => whnf))
    | (refine reqK_of ?_ ?_; (focus (first | decide | omega | assumption | (simp only [List.length_nil, fx, hw4, ds_len, h3, hwn] <;> omega) | (simp [keyNew, sameKey, kEq] <;> omega))); conv => whnf)
    | (refine reqK_of ?_ ?_; rotate_left; (conv => whnf); rotate_left)
    | (refine nth_ds ?_ ?_ ?_; (focus (first | omega | (simp only [List.length_nil, fx, hw4, ds_len, h3, hwn] <;> omega))); (focus (first | omega | (simp only [List.length_nil, fx, hw4, ds_len, h3, hwn] <;> omega))); conv => whnf)
    | (refine nth_us ?_ ?_ ?_; (focus (first | omega | (simp only [List.length_nil, fx, hw4, ds_len, h3, hwn] <;> omega))); (focus (first | omega | (simp only [List.length_nil, fx, hw4, ds_len, h3, hwn] <;> omega))); conv => whnf)
    | (refine nth_is ?_ ?_ ?_; (focus (first | omega | (simp only [List.length_nil, fx, hw4, ds_len, h3, hwn] <;> omega))); (focus (first | omega | (simp only [List.length_nil, fx, hw4, ds_len, h3, hwn] <;> omega))); conv => whnf)
    | (refine nth_bs ?_ ?_ ?_; (focus (first | omega | (simp only [List.length_nil, fx, hw4, ds_len, h3, hwn] <;> omega))); (focus (first | omega | (simp only [List.length_nil, fx, hw4, ds_len, h3, hwn] <;> omega))); conv => whnf))
  · rename_i hlt
    have hlt' : k < l.length ∧ k < 200 := by omega
    have hb : R8 (at0 l k) := hl _ (at0_mem (by simp; omega))
    have hC1 := hC (k + 1) ⟨by omega, by omega⟩ (by omega)
    have hw : IntKind.i64.wrap ((k : Int) + 1) = (k : Int) + 1 := wrap_i64 ⟨by omega, by omega⟩
    refine ⟨(qN c l k).w, (qN c l k).a, (qN c l k).b, at0 l k, rfl, rfl, hb, hok, ?_⟩
    have e : ownQ (stepQ (qN c l k).w (at0 l k)) (nilA (qN c l k).w (qN c l k).a (at0 l k)) (nilB (qN c l k).w (qN c l k).b (at0 l k)) = ownQ (qN c l (k + 1)).w (qN c l (k + 1)).a (qN c l (k + 1)).b := rfl
    rw [e]
    refine loopC hC1 ?_
    rw [hw, Int.natCast_succ]
    rfl
  all_goals try simp only [nums_us, dm_eta, not_t, not_f, lt_t, lt_f, le_t, le_f, eq_t, eq_f] at *
  all_goals first
    | exact hqO
    | exact hqT (by omega)
    | (exfalso
       have hs := hSO
       omega)
    | (exfalso
       have hs := hST (by omega)
       omega)
    | trace_state
open Classical in
noncomputable def c10 : List T → Ans
  | [.int .u8 sz, .list 1 xs, .int .u8 who] => .req (R8 sz ∧ (IsB xs ∧ Szb8 xs) ∧ R8 who) (.bool true)
  | _ => .no
theorem got10 {vs : List T} {x : T} (h : Got (c10 vs) x) : FnOk Try.prog tgl 10 vs x := by
  unfold c10 at h
  split at h
  · obtain ⟨hq, e⟩ := got_req h; rw [e]; exact ok10 _ _ _ hq
  · exact (got_no h).elim
theorem nogl10 (vs : List T) (p : Prop) (d : Decidable p) (sz : Nat) (xs : List T) (h : c10 vs = @Ans.gl p d sz xs) : False := by
  unfold c10 at h
  split at h <;> cases h
theorem pk10 (vs : List T) (p : Prop) (d : Decidable p) (x : T) (h : c10 vs = @Ans.pk p d x) (hp : p) : FnOk Try.prog tgl 10 vs x := by
  unfold c10 at h
  split at h
  · cases h
  · cases h
end Go.Nx
