/-
  A part of the machine, and of what is walked.
-/
import Derived.Test.YtdfjedkpclebgaaDoorP6
import Derived.Orders
section
set_option linter.unusedVariables false
set_option linter.unusedSimpArgs false
namespace Go.Nx
open Go.RowKit

def setOwn (k : Nat) (b : Blk) (own : Own) : Own := match look k own with
  | none => (k, b) :: own
  | some _ => upd k b own
theorem look_setOwn (k : Nat) (b : Blk) (own : Own) (j : Nat) : look j (setOwn k b own) = if j = k then some b else look j own := by
  unfold setOwn
  split
  · by_cases e : j = k
    · subst e; simp [look]
    · simp [look, e, Ne.symm e]
  · rename_i c h
    exact look_upd h j
def wsOn : List (Nat × Blk) → Own → Own
  | [], own => own
  | p :: r, own => wsOn r (setOwn p.1 p.2 own)
def wlook (k : Nat) : List (Nat × Blk) → Option Blk
  | [] => none
  | p :: r => match wlook k r with
    | some b => some b
    | none => if k = p.1 then some p.2 else none
theorem look_wsOn (k : Nat) : ∀ (ws : List (Nat × Blk)) (own : Own), look k (wsOn ws own) = match wlook k ws with
    | some b => some b
    | none => look k own := by
  intro ws
  induction ws with
  | nil => intro own; rfl
  | cons p r ih =>
    intro own
    simp only [wsOn, wlook]
    rw [ih]
    cases e : wlook k r with
    | some b => rfl
    | none =>
      simp only
      rw [look_setOwn]
      by_cases h : k = p.1 <;> simp [h]
theorem wlook_mem {k : Nat} {b : Blk} : ∀ {ws : List (Nat × Blk)}, wlook k ws = some b → (k, b) ∈ ws
  | [], h => by cases h
  | p :: r, h => by
    simp only [wlook] at h
    split at h
    · rename_i e; cases h; exact List.mem_cons_of_mem _ (wlook_mem e)
    · split at h
      · rename_i e; cases h; subst e; exact List.mem_cons_self
      · cases h

def quiet : Pg → Prop
  | .ret _ => True
  | .no => True
  | .rd _ _ => False
  | .wr _ _ _ => False
  | .new _ _ _ => False
  | @Pg.req _ _ p => quiet p
  | .br _ p q => quiet p ∧ quiet q
  | .nth _ _ f => ∀ x, quiet (f x)
  | @Pg.alt _ _ p q => quiet p ∧ quiet q

theorem upd_elim {k : Nat} {b : Blk} : ∀ {own : Own} {K : Own → Prop}, updK k b own K → ∃ c, look k own = some c
  | [], K, h => h.elim
  | p :: r, K, h => by
    obtain ⟨j, c⟩ := p
    simp only [updK] at h
    simp only [look]
    split at h
    · rename_i e
      have := Nat.eq_of_beq_eq_true e
      subst this
      exact ⟨c, by simp⟩
    · rename_i e
      have := Nat.ne_of_beq_eq_false e
      obtain ⟨c', h'⟩ := upd_elim h
      exact ⟨c', by simp [this, Ne.symm this, h']⟩

theorem run_local (p : Pg) : ∀ (own : Own) (log : Log) (K : V → Own → Log → Prop), run true p own log K →
    ∃ v ws l, K v (wsOn ws own) (l ++ log) ∧ (∀ x ∈ ws, (x.1, true) ∈ l) ∧ (quiet p → l = []) ∧
      ∀ (own' : Own) (log' : Log) (K' : V → Own → Log → Prop), (∀ k c, (k, c) ∈ l → look k own' = look k own) → K' v (wsOn ws own') (l ++ log') → run true p own' log' K' := by
  induction p with
  | ret v => intro own log K h; exact ⟨v, [], [], h, (fun x hx => by cases hx), fun _ => rfl, fun own' log' K' _ hK => hK⟩
  | no => intro own log K h; exact h.elim
  | rd k f ih =>
    intro own log K h
    rw [run_rd] at h
    obtain ⟨b, hb, h⟩ := lkupK_elim h
    obtain ⟨v, ws, l, h1, h2, _, h3⟩ := ih b own _ K h
    refine ⟨v, ws, l ++ [(k, false)], by simpa using h1, fun x hx => List.mem_append.2 (.inl (h2 x hx)), fun hq => hq.elim, fun own' log' K' ha hK => ?_⟩
    rw [run_rd]
    refine lkupK_mk (b := b) (by rw [ha k false (by simp)]; exact hb) (h3 own' _ K' (fun k c hk => ha k c (List.mem_append.2 (.inl hk))) (by simpa using hK))
  | wr k b p ih =>
    intro own log K h
    rw [run_wr] at h
    obtain ⟨c, hc⟩ := upd_elim h
    replace h := updK_elim h
    obtain ⟨v, ws, l, h1, h2, _, h3⟩ := ih _ _ K h
    have e1 : upd k b own = setOwn k b own := by simp [setOwn, hc]
    refine ⟨v, (k, b) :: ws, l ++ [(k, true)], by simpa [wsOn, e1] using h1, fun x hx => ?_, fun hq => hq.elim, fun own' log' K' ha hK => ?_⟩
    · rcases List.mem_cons.1 hx with rfl | hx
      · simp
      · exact List.mem_append.2 (.inl (h2 x hx))
    · have hc' : look k own' = some c := by rw [ha k true (by simp)]; exact hc
      have e2 : upd k b own' = setOwn k b own' := by simp [setOwn, hc']
      rw [run_wr]
      refine updK_mk hc' (h3 _ _ K' (fun j c hj => ?_) (by simpa [wsOn, e2] using hK))
      rw [e1, e2, look_setOwn, look_setOwn, ha j c (List.mem_append.2 (.inl hj))]
  | new k b p ih =>
    intro own log K h
    rw [run_new] at h
    obtain ⟨hc, h⟩ := freshK_elim h
    obtain ⟨v, ws, l, h1, h2, _, h3⟩ := ih _ _ K h
    have e1 : (k, b) :: own = setOwn k b own := by simp [setOwn, hc]
    refine ⟨v, (k, b) :: ws, l ++ [(k, true)], by simpa [wsOn, ← e1] using h1, fun x hx => ?_, fun hq => hq.elim, fun own' log' K' ha hK => ?_⟩
    · rcases List.mem_cons.1 hx with rfl | hx
      · simp
      · exact List.mem_append.2 (.inl (h2 x hx))
    · have hc' : look k own' = none := by rw [ha k true (by simp)]; exact hc
      have e2 : (k, b) :: own' = setOwn k b own' := by simp [setOwn, hc']
      rw [run_new]
      refine freshK_mk hc' (h3 _ _ K' (fun j c hj => ?_) (by simpa [wsOn, ← e2] using hK))
      rw [e1, e2, look_setOwn, look_setOwn, ha j c (List.mem_append.2 (.inl hj))]
  | req c p ih =>
    intro own log K h
    obtain ⟨hc, h⟩ := req_elim h
    obtain ⟨v, ws, l, h1, h2, h4, h3⟩ := ih _ _ K h
    exact ⟨v, ws, l, h1, h2, h4, fun own' log' K' ha hK => by rw [run_req]; exact reqK_of hc (h3 _ _ K' ha hK)⟩
  | br b p q ihp ihq =>
    intro own log K h
    rcases br_elim h with ⟨hb, h⟩ | ⟨hb, h⟩
    · obtain ⟨v, ws, l, h1, h2, h4, h3⟩ := ihp _ _ K h
      exact ⟨v, ws, l, h1, h2, fun hq => h4 hq.1, fun own' log' K' ha hK => by rw [run_br]; exact brK_true hb (h3 _ _ K' ha hK)⟩
    · obtain ⟨v, ws, l, h1, h2, h4, h3⟩ := ihq _ _ K h
      exact ⟨v, ws, l, h1, h2, fun hq => h4 hq.2, fun own' log' K' ha hK => by rw [run_br]; exact brK_false hb (h3 _ _ K' ha hK)⟩
  | nth xs i f ih =>
    intro own log K h
    obtain ⟨h0, x, hx, h⟩ := nth_elim h
    obtain ⟨v, ws, l, h1, h2, h4, h3⟩ := ih x _ _ K h
    exact ⟨v, ws, l, h1, h2, fun hq => h4 (hq x), fun own' log' K' ha hK => by rw [run_nth]; exact nthK_of x h0 hx (h3 _ _ K' ha hK)⟩
  | alt c p q ihp ihq => intro own log K h; exact h.elim

theorem quiet_getP {α : Type} {f : α → Pg} (h : ∀ x, quiet (f x)) : ∀ (l : List α) (n : Nat), quiet (getP l n f)
  | [], _ => trivial
  | x :: r, 0 => h x
  | x :: r, n + 1 => quiet_getP h r n
theorem quiet_takeP {α : Type} : ∀ (l : List α) (o n : Nat) (f : List α → Pg), (∀ x, quiet (f x)) → quiet (takeP l o n f)
  | l, o, 0, f, h => by unfold takeP; exact h _
  | [], o, n + 1, f, h => by unfold takeP; trivial
  | x :: r, 0, n + 1, f, h => by unfold takeP; exact quiet_takeP r 0 n _ fun l => h _
  | x :: r, o + 1, n + 1, f, h => by unfold takeP; exact quiet_takeP r o (n + 1) _ h
theorem quiet_rdP {cs : List V} {off : Nat} {n : Option Nat} {f : V → Pg} (h : ∀ v, quiet (f v)) : quiet (rdP cs off n f) := by
  cases n with
  | none => exact quiet_getP h _ _
  | some n => exact quiet_takeP _ _ _ _ fun l => h _
theorem quiet_rdTP {cs : List T} {off : Nat} {n : Option Nat} {f : V → Pg} (h : ∀ v, quiet (f v)) : quiet (rdTP cs off n f) := by
  cases n with
  | none => exact quiet_getP (fun x => h _) _ _
  | some n => exact quiet_takeP _ _ _ _ fun l => h _
theorem quiet_tagP : ∀ (l : List T) (f : List V → Pg), (∀ x, quiet (f x)) → quiet (tagP l f)
  | [], f, h => h _
  | x :: r, f, h => quiet_tagP r _ fun l => h _
theorem quiet_oneP {x : T} {p : Pg} (h : quiet p) : quiet (oneP x p) := by unfold oneP; split <;> first | trivial | exact h
theorem quiet_onesP : ∀ (l : List T) {p : Pg}, quiet p → quiet (onesP l p)
  | [], p, h => h
  | x :: r, p, h => quiet_oneP (quiet_onesP r h)
theorem quiet_oneVP {x : V} {p : Pg} (h : quiet p) : quiet (oneVP x p) := by unfold oneVP; split <;> first | trivial | exact quiet_oneP h | exact h
theorem quiet_onesVP : ∀ (l : List V) {p : Pg}, quiet p → quiet (onesVP l p)
  | [], p, h => h
  | x :: r, p, h => quiet_oneVP (quiet_onesVP r h)
theorem quiet_cellsP {v : V} {f : List V → Pg} (h : ∀ x, quiet (f x)) : quiet (cellsP v f) := by
  unfold cellsP
  split
  · split
    · exact quiet_onesP _ (quiet_tagP _ _ h)
    · trivial
    · exact h _
  · exact quiet_onesVP _ (h _)
  · trivial
  · trivial
  · exact h _
theorem quiet_lenP {α : Type} {p : Pg} (h : quiet p) : ∀ (l : List α) (n : Nat), quiet (lenP l n p)
  | [], 0 => h
  | [], n + 1 => trivial
  | x :: r, 0 => trivial
  | x :: r, n + 1 => quiet_lenP h r n
theorem quiet_putNP {α : Type} : ∀ (cs : List α) (o : Nat) (l : List α) (f : List α → Pg), (∀ x, quiet (f x)) → quiet (putNP cs o l f)
  | cs, o, [], f, h => by unfold putNP; exact h _
  | [], o, x :: l, f, h => by unfold putNP; trivial
  | c :: r, 0, v :: vs, f, h => by unfold putNP; exact quiet_putNP r 0 vs _ fun l => h _
  | c :: r, o + 1, v :: vs, f, h => by unfold putNP; exact quiet_putNP r o (v :: vs) _ fun l => h _
theorem quiet_fillP : ∀ (ps : List (Nat × Nat × Opd)) (vs cs : List V) (f : List V → Pg), (∀ x, quiet (f x)) → quiet (fillP ps vs cs f)
  | [], vs, cs, f, h => by unfold fillP; exact h _
  | (o, n, x) :: ps, [], cs, f, h => by unfold fillP; trivial
  | (o, n, x) :: ps, v :: vs, cs, f, h => by unfold fillP; exact quiet_cellsP fun l => quiet_lenP (quiet_putNP _ _ _ _ fun cs' => quiet_fillP ps vs cs' f h) _ _
theorem quiet_intP {v : V} {f : Int → Pg} (h : ∀ x, quiet (f x)) : quiet (intP v f) := by unfold intP; split <;> first | exact h _ | trivial
theorem quiet_bndP {o : Option Opd} {vs : List V} {f : Option Int → List V → Pg} (h : ∀ x y, quiet (f x y)) : quiet (bndP o vs f) := by
  unfold bndP
  split
  · exact h _ _
  · split
    · exact quiet_intP fun z => h _ _
    · trivial
def Ans.pure : Ans → Prop
  | @Ans.gl _ _ _ _ => False
  | _ => True
theorem quiet_ansP {a : Ans} (h : a.pure) {k : Nat} : quiet (ansP a k) := by
  cases a <;> first | trivial | exact h.elim
theorem pure_binI (op : BinOp) (k : IntKind) (a b : Int) : (binI op k a b).pure := by cases op <;> trivial
theorem pure_binA (op : BinOp) (x y : T) : (binA op x y).pure := by
  unfold binA
  split
  · split
    · exact pure_binI _ _ _ _
    · split <;> first | exact pure_binI _ _ _ _ | trivial
  · split <;> trivial
  · trivial
theorem pure_binbA (op : BinOp) (x y : T) : (binbA op x y).pure := by
  unfold binbA
  repeat' split
  all_goals trivial
theorem pure_unA (op : UnOp) (x : T) : (unA op x).pure := by
  unfold unA
  repeat' split
  all_goals trivial
theorem quiet_prog {base : Nat} {op : MK} (h : hasK op = false) (vs : List V) : quiet (prog base op vs) := by
  cases op <;> first | (simp [hasK] at h; done) | skip
  all_goals (unfold prog; repeat' split)
  all_goals first
    | trivial
    | exact ⟨trivial, trivial⟩
    | exact quiet_rdTP fun _ => trivial
    | exact quiet_rdP fun _ => trivial
    | exact quiet_intP fun _ => trivial
    | exact quiet_intP fun _ => fun _ => trivial
    | exact quiet_intP fun _ => (by split <;> first | trivial | exact fun _ => trivial)
    | exact quiet_ansP (pure_binA _ _ _)
    | exact quiet_ansP (pure_binbA _ _ _)
    | exact quiet_ansP (pure_unA _ _)
    | exact quiet_tagP _ _ fun _ => quiet_fillP _ _ _ _ fun _ => trivial
    | exact quiet_getP (f := fun y => Pg.ret (V.t y)) (fun _ => trivial) _ _
    | exact quiet_getP (f := fun y => Pg.ret y) (fun _ => trivial) _ _
    | exact quiet_bndP fun _ _ => quiet_bndP fun _ _ => trivial
    | (unfold natP; split <;> trivial)
    | skip

structure Out where
  v : V
  ws : List (Nat × Blk)
def Out.on (u : Out) (d : Option Nat) (st : St) : St := (⟨st.tm, wsOn u.ws st.own⟩ : St).put d u.v

structure Alike (op : MK) (l : Log) (tm tm' : List V) (own own' : Own) : Prop where
  len : tm'.length = tm.length
  tms : ∀ x ∈ opds op, ∀ i, x = .t i → tm'[i]? = tm[i]?
  owns : ∀ k c, (k, c) ∈ l → look k own' = look k own

structure Local (Γ : Env) (d : Option Nat) (op : MK) (tm : List V) (own : Own) (u : Out) (l : Log) : Prop where
  slot : ∀ i, d = some i → i < tm.length
  ws : ∀ x ∈ u.ws, (x.1, true) ∈ l
  has : hasK op = false → l = []
  run : ∀ tm' own', Alike op l tm tm' own own' → ∀ K : St → Log → Prop, K (u.on d ⟨tm', own'⟩) l → stepK Γ true d ⟨tm', own'⟩ op K

theorem evF_alike {Γ : Env} {op : MK} {l : Log} {tm tm' : List V} {own own' : Own} (h : Alike op l tm tm' own own') {x : Opd} (hx : x ∈ opds op) : evF Γ tm' x = evF Γ tm x := by
  cases x with
  | t i => exact h.tms _ hx i rfl
  | k x => rfl
  | g i => rfl
theorem step_local {Γ : Env} {d : Option Nat} {tm : List V} {own : Own} {op : MK} {K : St → Log → Prop} (h : stepK Γ true d ⟨tm, own⟩ op K) :
    ∃ u l, K (u.on d ⟨tm, own⟩) l ∧ Local Γ d op tm own u l := by
  -- what is run, and on what
  have main : ∀ (p : Pg) (vs : List V), vs.length = (opds op).length → (∀ (i : Nat) (x : Opd), (opds op)[i]? = some x → ∃ v, vs[i]? = some v ∧ evF Γ tm x = some v) → (hasK op = false → quiet p) →
      (∀ tm' own' (K' : St → Log → Prop), (vs.length = (opds op).length ∧ ∀ (i : Nat) (x : Opd), (opds op)[i]? = some x → ∃ v, vs[i]? = some v ∧ evF Γ tm' x = some v) →
        run true p own' [] (fun v own' log => putK ⟨tm', own'⟩ d v fun st => K' st log) → stepK Γ true d ⟨tm', own'⟩ op K') →
      run true p own [] (fun v own' log => putK ⟨tm, own'⟩ d v fun st => K st log) → ∃ u l, K (u.on d ⟨tm, own⟩) l ∧ Local Γ d op tm own u l := by
    intro p vs hv1 hv2 hq hre hrun
    obtain ⟨v, ws, l, h1, h2, h3, h4⟩ := run_local p _ _ _ hrun
    obtain ⟨h5, h6⟩ := putK_elim h1
    rw [List.append_nil] at h6
    refine ⟨⟨v, ws⟩, l, h6, h5, h2, fun hk => h3 (hq hk), fun tm' own' ha K' hK' => ?_⟩
    refine hre tm' own' K' ⟨hv1, fun i x hx => ?_⟩ (h4 own' [] _ ha.owns ?_)
    · obtain ⟨y, g1, g2⟩ := hv2 i x hx
      exact ⟨y, g1, by rw [evF_alike ha (List.mem_of_getElem? hx)]; exact g2⟩
    · refine putK_mk (fun i hi => ?_) (by rw [List.append_nil]; exact hK')
      show i < tm'.length
      rw [ha.len]; exact h5 i hi
  by_cases hc : isCall op = true
  · cases op <;> first | (simp [isCall] at hc; done) | skip
    rename_i key f args
    obtain ⟨vs, hv1, hv2, h⟩ := evsK_elim h
    obtain ⟨fv, avs, rfl, hfv, hargs⟩ := vals_cons (x := f) (xs := args) ⟨hv1, hv2⟩
    simp only [inlQ_dr] at h
    have callee : ∃ n first caps, (∀ K : Nat → List V → List V → Prop, K n first caps → calleeK fv K) ∧ (match inlD (Γ.isI n) (Γ.isD n) true with
          | true => drK fun own1 v => DrOk (first ++ (avs ++ caps)) own1 own v ∧ Γ.pt n (Nat.mul (keyB Γ.base key) 1024) (first ++ (avs ++ caps)) own1 (fun v' own' => v' = v ∧ own' = own1) ∧ putK ⟨tm, own⟩ d v fun st => K st (own1.map fun p => (p.1, false))
          | false => run true (callP (Γ.fn n) (first ++ (avs ++ caps)) (keyB Γ.base key)) own [] fun v own' log => putK ⟨tm, own'⟩ d v fun st => K st log) := by
      unfold calleeK at h
      split at h
      · rename_i n first caps
        refine ⟨n, first.map .t, caps.map .t, fun K hK => ?_, tagK_elim (tagK_elim h)⟩
        show tagK first fun a => tagK caps fun b => K n a b
        have tk : ∀ (l : List T) (K : List V → Prop), K (l.map .t) → tagK l K := by
          intro l
          induction l with
          | nil => intro K h; exact h
          | cons x r ih => intro K h; exact ih _ h
        exact tk _ _ (tk _ _ hK)
      · rename_i n first caps
        exact ⟨n, first, caps, fun K hK => hK, h⟩
      · exact h.elim
    obtain ⟨n, first, caps, hmk, h⟩ := callee
    split at h
    · rename_i hD
      obtain ⟨own1, v, hok, hpt, hK⟩ := drK_elim h
      obtain ⟨hv, hs, ha, hc⟩ := hok
      obtain ⟨h5, h6⟩ := putK_elim hK
      refine ⟨⟨v, []⟩, _, h6, h5, (fun x hx => (by cases hx)), fun hk => by simp [hasK] at hk, fun tm' own' hal K' hK' => ?_⟩
      refine evsK_mk hv1 (fun i x hx => ?_) ?_
      · obtain ⟨y, g1, g2⟩ := hv2 i x hx
        exact ⟨y, g1, by rw [evF_alike hal (List.mem_of_getElem? hx)]; exact g2⟩
      dsimp only
      refine hmk _ ?_
      rw [inlQ_dr]
      dsimp only
      rw [hD]
      refine drK_of own1 v ⟨⟨hv, fun p hp => ?_, ha, hc⟩, hpt, putK_mk (fun i hi => ?_) hK'⟩
      · obtain ⟨b, h1, h2⟩ := lkupK_elim (hs p hp)
        exact lkupK_mk (by rw [hal.owns p.1 false (List.mem_map.2 ⟨p, hp, rfl⟩)]; exact h1) h2
      · show i < tm'.length
        rw [hal.len]; exact h5 i hi
    rename_i hD
    refine main _ (fv :: avs) hv1 hv2 (fun hk => by simp [hasK] at hk) (fun tm' own' K' hv hrun => ?_) h
    refine evsK_mk hv.1 hv.2 ?_
    dsimp only
    refine hmk _ ?_
    rw [inlQ_dr]
    dsimp only
    rw [hD]
    exact hrun
  · have hc : isCall op = false := by simpa using hc
    have e : ∀ tm' own' (K' : St → Log → Prop), stepK Γ true d ⟨tm', own'⟩ op K' = evsK Γ tm' (opds op) fun vs => run true (prog Γ.base op vs) own' [] fun v own' log => putK ⟨tm', own'⟩ d v fun st => K' st log := by
      intro tm' own' K'
      cases op <;> first | rfl | (simp [isCall] at hc)
    rw [e] at h
    obtain ⟨vs, hv1, hv2, h⟩ := evsK_elim h
    exact main _ vs hv1 hv2 (fun hk => quiet_prog hk vs) (fun tm' own' K' hv hrun => by rw [e]; exact evsK_mk hv.1 hv.2 hrun) h

section
variable {P : Program} {Γ : Env} {B : Base} {Q : Exit → Act → World → Prop}

theorem step_good (hΓ : EnvOk P Γ) {o : Oper} {mk : MK} (hl : lowOp P o = some mk) {st : St} {a : Act} {w : World} {dr : Bool} {K : St → Log → Prop} {next : Act → World → Prop} (h : stepK Γ dr o.dst st mk K) (hg : Good Γ B st a w)
    (hn : ∀ st' log a' w', K st' log → Good Γ B st' a' w' → next a' w') : o.wp P a w next Q := by
  obtain ⟨S, ρ, hr⟩ := hg
  obtain ⟨tm, own⟩ := st
  exact step_sound hΓ hn hr hl h
theorem good_put {st : St} {a : Act} {w : World} (hg : Good Γ B st a w) (d : Option Nat) : Good Γ B (st.put d (.t .undef)) (a.put d undef) w := by
  obtain ⟨S, ρ, hr⟩ := hg
  exact ⟨S, ρ, hr.put rel_undef⟩

theorem guard_slot {ops : Array Oper} {st : St} {a : Act} {w : World} (hg : Good Γ B st a w) {j t : Nat} (hj : (ops[j]?).bind (·.dst) = some t) {v : V} (hv : st.tm[t]? = some v) :
    (∀ b, v = .t (.bool b) → yielded ops a.tmps j = some b) ∧ (∀ l, v = .t (.tup l) → yielded ops a.tmps j = none) := by
  obtain ⟨S, ρ, hr⟩ := hg
  obtain ⟨tm, own⟩ := st
  have h1 := hr.ev hv
  have hlt : t < a.tmps.size := by
    rw [hr.len]
    rcases Nat.lt_or_ge t tm.length with h | h
    · exact h
    · rw [List.getElem?_eq_none h] at hv; cases hv
  have e : a.tmps[t]? = some (a.tmps.getD t undef) := by simp [hlt]
  refine ⟨fun b hb => ?_, fun l hl => ?_⟩
  · subst hb
    have := RelT.bool_of h1.t_of
    simp [yielded, hj, e, this]
  · subst hl
    have h2 : RelT S w (.tup l) (a.tmps.getD t undef) := h1.t_of
    generalize a.tmps.getD t undef = u at h2 e
    cases h2
    simp [yielded, hj, e]

theorem lowG_spec {ops : Array Oper} {o : Oper} {g : Option (Nat × Bool)} (h : lowG ops o = some g) : (g = none ∧ o.guard = none) ∨ ∃ j t b, g = some (t, b) ∧ o.guard = some (j, b) ∧ (ops[j]?).bind (·.dst) = some t := by
  unfold lowG at h
  split at h
  · rename_i e; cases h; exact .inl ⟨rfl, e⟩
  · rename_i j b e
    split at h
    · rename_i t e2; cases h; exact .inr ⟨j, t, b, rfl, e, e2⟩
    · cases h

theorem lowOps_cons {ops : Array Oper} {o : Oper} {r : List Oper} {ml : List MOp} (h : lowOps P ops (o :: r) = some ml) : ∃ k g l, lowOp P o = some k ∧ lowG ops o = some g ∧ lowOps P ops r = some l ∧ ml = ⟨o.dst, k, g⟩ :: l := by
  simp only [lowOps] at h
  split at h
  · rename_i k g l h1 h2 h3; cases h; exact ⟨k, g, l, h1, h2, h3, rfl⟩
  · cases h

theorem runOps_sound (hΓ : EnvOk P Γ) {ops : Array Oper} : ∀ (l : List Oper) (ml : List MOp) (st : St) (a : Act) (w : World) (K : Ex → St → Prop), lowOps P ops l = some ml → runOps Γ ml st K → Good Γ B st a w →
    (∀ st' a' w', K .normal st' → Good Γ B st' a' w' → Q .normal a' w') →
    (∀ y st' a' w' S' ρ' u, K (.pan y) st' → Rel Γ B S' ρ' st' a' w' → PanR S' w' y u → Q (.panic [{ v := u, recovered := false }]) a' w') → wpList P ops Q l a w := by
  intro l
  induction l with
  | nil =>
    intro ml st a w K hl h hg hQ hP
    simp [lowOps] at hl; subst hl
    exact hQ _ _ _ h hg
  | cons o r ih =>
    intro ml st a w K hl h hg hQ hP
    obtain ⟨k, g, l', h1, h2, h3, rfl⟩ := lowOps_cons hl
    simp only [runOps_nil, runOps_cons] at h
    unfold wpList
    have run : Region.wanted o (yielded ops a.tmps) = true → stepP Γ o.dst st k (fun e st => match e with | .normal => runOps Γ l' st K | e => K e st) →
        (if Region.wanted o (yielded ops a.tmps) = true then o.wp P a w (wpList P ops Q r) Q ∨ (o.asks P a w ∧ LetsOut Q) else wpList P ops Q r (a.put o.dst undef) w) := fun hw hs => by
      rw [if_pos hw]
      obtain ⟨tm, own⟩ := st
      obtain ⟨S, ρ, hr⟩ := hg
      exact .inl (stepP_sound hΓ (K := fun e st => match e with | .normal => runOps Γ l' st K | e => K e st) (fun st' a' w' hK hg' => ih l' st' a' w' K h3 hK hg' hQ hP) (fun y st' a' w' S' ρ' u hK hr' hu => hP y st' a' w' S' ρ' u hK hr' hu) hr h1 hs)
    have skip : Region.wanted o (yielded ops a.tmps) = false → putK st o.dst (.t .undef) (fun st => runOps Γ l' st K) →
        (if Region.wanted o (yielded ops a.tmps) = true then o.wp P a w (wpList P ops Q r) Q ∨ (o.asks P a w ∧ LetsOut Q) else wpList P ops Q r (a.put o.dst undef) w) := fun hw hs => by
      rw [if_neg (by simp [hw])]
      exact ih l' _ _ _ K h3 (putK_elim hs).2 (good_put hg o.dst) hQ hP
    rcases lowG_spec h2 with ⟨rfl, hgd⟩ | ⟨j, t, b, rfl, hgd, hd⟩
    · exact run (by simp [Region.wanted, hgd]) h
    · obtain ⟨tm, own⟩ := st
      dsimp only at h
      obtain ⟨v, hv, h⟩ := getK_elim h
      obtain ⟨q1, q2⟩ := guard_slot hg hd hv
      split at h
      · rename_i c
        have q3 := q1 c rfl
        have hw : Region.wanted o (yielded ops a.tmps) = (c == b) := by simp [Region.wanted, hgd, q3]
        cases b
        · (have h0 := brK_elim h; clear h); rcases h0 with ⟨e, h⟩ | ⟨e, h⟩ <;> subst e
          · exact skip (by rw [hw]; rfl) h
          · exact run (by rw [hw]; rfl) h
        · (have h0 := brK_elim h; clear h); rcases h0 with ⟨e, h⟩ | ⟨e, h⟩ <;> subst e
          · exact run (by rw [hw]; rfl) h
          · exact skip (by rw [hw]; rfl) h
      · have q3 := q2 _ rfl
        exact skip (by simp [Region.wanted, hgd, q3]) h
      · exact h.elim
end
end Go.Nx
end
section
set_option linter.unusedVariables false
set_option linter.unusedSimpArgs false
namespace Go.Nx
open Go.RowKit

section
variable {P : Program} {Γ : Env} {B : Base} {Q : Exit → Act → World → Prop}
structure Rec where
  ran : Bool
  hole : Bool
  out : Out
def Rec.on (r : Rec) (m : MOp) (st : St) : St := r.out.on m.d st
def Same0 (op : MK) (tm tm' : List V) : Prop := tm'.length = tm.length ∧ ∀ x ∈ opds op, ∀ i, x = .t i → tm'[i]? = tm[i]?
def PLoc (Γ : Env) (d : Option Nat) (op : MK) (tm : List V) (v : V) : Prop :=
  ∀ tm' own', Same0 op tm tm' → ∀ K : Ex → St → Prop, K .normal ((Out.mk v []).on d ⟨tm', own'⟩) → stepP Γ d ⟨tm', own'⟩ op K
def PPan (Γ : Env) (d : Option Nat) (op : MK) (tm : List V) (y : Option T) : Prop :=
  ∀ tm' own', Same0 op tm tm' → ∀ K : Ex → St → Prop, K (.pan y) ⟨tm', own'⟩ → stepP Γ d ⟨tm', own'⟩ op K
inductive Chain (Γ : Env) : List MOp → List Rec → List Log → St → St → Prop
  | nil (st : St) : Chain Γ [] [] [] st st
  | ran (m : MOp) (u : Out) (lg : Log) (ms : List MOp) (rs : List Rec) (ks : List Log) (st st' : St) (hg : m.g = none ∨ ∃ t b, m.g = some (t, b) ∧ st.tm[t]? = some (.t (.bool b))) (hl : Local Γ m.d m.op st.tm st.own u lg)
      (h : Chain Γ ms rs ks (u.on m.d st) st') : Chain Γ (m :: ms) (⟨true, false, u⟩ :: rs) (lg :: ks) st st'
  | skip (m : MOp) (t : Nat) (b : Bool) (ms : List MOp) (rs : List Rec) (ks : List Log) (st st' : St) (hg : m.g = some (t, b)) (hv : st.tm[t]? = some (.t (.bool (!b))) ∨ ∃ l, st.tm[t]? = some (.t (.tup l))) (hd : ∀ i, m.d = some i → i < st.tm.length)
      (h : Chain Γ ms rs ks ((Out.mk (.t .undef) []).on m.d st) st') : Chain Γ (m :: ms) (⟨false, false, ⟨.t .undef, []⟩⟩ :: rs) ([] :: ks) st st'
  | may (m : MOp) (v : V) (ms : List MOp) (rs : List Rec) (ks : List Log) (st st' : St) (hg : m.g = none) (hl : PLoc Γ m.d m.op st.tm v) (h : Chain Γ ms rs ks ((Out.mk v []).on m.d st) st') :
      Chain Γ (m :: ms) (⟨true, false, ⟨v, []⟩⟩ :: rs) ([] :: ks) st st'
  | hole (m : MOp) (ms : List MOp) (rs : List Rec) (ks : List Log) (st st' : St) (h : Chain Γ ms rs ks ((Out.mk .dead []).on m.d st) st') : Chain Γ (m :: ms) (⟨false, true, ⟨.dead, []⟩⟩ :: rs) ([] :: ks) st st'

theorem revL_eq (l acc : List Log) : revL l acc = l.reverse ++ acc := by
  induction l generalizing acc with
  | nil => rfl
  | cons x r ih => simp [revL, ih]
theorem runD_chain : ∀ (ms : List MOp) (st : St) (log : List Log) (K : St → List Log → Prop), runD Γ ms st log K → ∃ rs ks st', Chain Γ ms rs ks st st' ∧ (∀ (n : Nat) (r : Rec), rs[n]? = some r → r.hole = false) ∧ K st' (log.reverse ++ ks) := by
  intro ms
  induction ms with
  | nil =>
    intro st log K h
    simp only [runD_nil, runD_cons, revL_eq] at h
    exact ⟨[], [], st, .nil st, (fun n r h => by simp at h), by simpa using h⟩
  | cons m ms ih =>
    intro st log K h
    obtain ⟨d, op, g⟩ := m
    obtain ⟨tm, own⟩ := st
    simp only [runD_nil, runD_cons] at h
    have nh : ∀ (r0 : Rec) (rs : List Rec), r0.hole = false → (∀ (n : Nat) (r : Rec), rs[n]? = some r → r.hole = false) → ∀ (n : Nat) r, (r0 :: rs)[n]? = some r → r.hole = false := fun r0 rs h0 hr n r hn => by
      cases n with
      | zero => simp at hn; subst hn; exact h0
      | succ n => exact hr n r (by simpa using hn)
    have run : ((⟨d, op, g⟩ : MOp).g = none ∨ ∃ t b, (⟨d, op, g⟩ : MOp).g = some (t, b) ∧ tm[t]? = some (.t (.bool b))) → stepK Γ true d ⟨tm, own⟩ op (fun st ks => runD Γ ms st (ks :: log) K) →
        ∃ rs ks st', Chain Γ (⟨d, op, g⟩ :: ms) rs ks ⟨tm, own⟩ st' ∧ (∀ (n : Nat) (r : Rec), rs[n]? = some r → r.hole = false) ∧ K st' (log.reverse ++ ks) := fun hg hs => by
      obtain ⟨u, lg, h1, h2⟩ := step_local hs
      obtain ⟨rs, ks, st', h3, hh, h4⟩ := ih _ _ _ h1
      exact ⟨_, _, st', .ran ⟨d, op, g⟩ u lg ms rs ks ⟨tm, own⟩ st' hg h2 h3, nh _ _ rfl hh, by simpa using h4⟩
    have skip : ∀ t b, g = some (t, b) → (tm[t]? = some (.t (.bool (!b))) ∨ ∃ l, tm[t]? = some (.t (.tup l))) → putK ⟨tm, own⟩ d (.t .undef) (fun st => runD Γ ms st ([] :: log) K) →
        ∃ rs ks st', Chain Γ (⟨d, op, g⟩ :: ms) rs ks ⟨tm, own⟩ st' ∧ (∀ (n : Nat) (r : Rec), rs[n]? = some r → r.hole = false) ∧ K st' (log.reverse ++ ks) := fun t b hg hv hs => by
      obtain ⟨h1, h2⟩ := putK_elim hs
      obtain ⟨rs, ks, st', h3, hh, h4⟩ := ih _ _ _ h2
      exact ⟨_, _, st', .skip ⟨d, op, g⟩ t b ms rs ks ⟨tm, own⟩ st' hg hv h1 h3, nh _ _ rfl hh, by simpa using h4⟩
    cases g with
    | none => exact run (.inl rfl) h
    | some p =>
      obtain ⟨t, b⟩ := p
      dsimp only at h
      obtain ⟨v, hv, h⟩ := getK_elim h
      split at h
      · rename_i c
        cases b
        · (have h0 := brK_elim h; clear h); rcases h0 with ⟨e, h⟩ | ⟨e, h⟩ <;> subst e
          · exact skip t false rfl (.inl hv) h
          · exact run (.inr ⟨t, false, rfl, hv⟩) h
        · (have h0 := brK_elim h; clear h); rcases h0 with ⟨e, h⟩ | ⟨e, h⟩ <;> subst e
          · exact run (.inr ⟨t, true, rfl, hv⟩) h
          · exact skip t true rfl (.inl hv) h
      · exact skip t b rfl (.inr ⟨_, hv⟩) h
      · exact h.elim

def aft (X : Nat → Bool) : Nat → List MOp → List Rec → St → St
  | i, m :: ms, r :: rs, st => aft X (i + 1) ms rs (if X i then r.on m st else st)
  | _, _, _, st => st
theorem Chain.all {ms : List MOp} {rs : List Rec} {ks : List Log} {st st' : St} (h : Chain Γ ms rs ks st st') (X : Nat → Bool) (i : Nat) (hX : ∀ j, i ≤ j → j < i + ms.length → X j = true) : aft X i ms rs st = st' := by
  induction h generalizing i with
  | nil => rfl
  | ran m u lg ms rs ks st st' hg hl h ih =>
    simp only [aft]
    rw [hX i (Nat.le_refl i) (by simp)]
    exact ih (i + 1) fun j h1 h2 => hX j (by omega) (by simp; omega)
  | skip m t b ms rs ks st st' hg hv hd h ih =>
    simp only [aft]
    rw [hX i (Nat.le_refl i) (by simp)]
    exact ih (i + 1) fun j h1 h2 => hX j (by omega) (by simp; omega)
  | may m v ms rs ks st st' hg hl h ih =>
    simp only [aft]
    rw [hX i (Nat.le_refl i) (by simp)]
    exact ih (i + 1) fun j h1 h2 => hX j (by omega) (by simp; omega)
  | hole m ms rs ks st st' h ih =>
    simp only [aft]
    rw [hX i (Nat.le_refl i) (by simp)]
    exact ih (i + 1) fun j h1 h2 => hX j (by omega) (by simp; omega)
theorem Chain.lens {ms : List MOp} {rs : List Rec} {ks : List Log} {st st' : St} (h : Chain Γ ms rs ks st st') : rs.length = ms.length ∧ ks.length = ms.length := by
  induction h with
  | nil => exact ⟨rfl, rfl⟩
  | ran m u lg ms rs ks st st' hg hl h ih => simp [ih]
  | skip m t b ms rs ks st st' hg hv hd h ih => simp [ih]
  | may m v ms rs ks st st' hg hl h ih => simp [ih]
  | hole m ms rs ks st st' h ih => simp [ih]
end

theorem put_tm (st : St) (d : Option Nat) (v : V) (t : Nat) : (st.put d v).tm[t]? = if d = some t ∧ t < st.tm.length then some v else st.tm[t]? := by
  cases d with
  | none => simp [St.put]
  | some d =>
    simp only [St.put, Option.some.injEq]
    rw [List.getElem?_set]
    by_cases e : d = t
    · subst e
      by_cases h : d < st.tm.length
      · simp [h]
      · simp [h]
    · simp [e]
theorem put_len (st : St) (d : Option Nat) (v : V) : (st.put d v).tm.length = st.tm.length := by cases d <;> simp [St.put]
theorem put_own (st : St) (d : Option Nat) (v : V) : (st.put d v).own = st.own := by cases d <;> rfl
theorem on_tm (r : Rec) (m : MOp) (st : St) (t : Nat) : (r.on m st).tm[t]? = if m.d = some t ∧ t < st.tm.length then some r.out.v else st.tm[t]? := put_tm _ _ _ _
theorem on_len (r : Rec) (m : MOp) (st : St) : (r.on m st).tm.length = st.tm.length := put_len _ _ _
theorem on_own (r : Rec) (m : MOp) (st : St) (k : Nat) : look k (r.on m st).own = match wlook k r.out.ws with
    | some b => some b
    | none => look k st.own := by
  show look k ((⟨st.tm, wsOn r.out.ws st.own⟩ : St).put m.d r.out.v).own = _
  rw [put_own]
  exact look_wsOn _ _ _

theorem aft_len (X : Nat → Bool) : ∀ (ms : List MOp) (rs : List Rec) (i : Nat) (st : St), (aft X i ms rs st).tm.length = st.tm.length := by
  intro ms
  induction ms with
  | nil => intro rs i st; simp [aft]
  | cons m ms ih =>
    intro rs i st
    cases rs with
    | nil => simp [aft]
    | cons r rs =>
      simp only [aft]
      rw [ih]
      split
      · exact on_len r m st
      · rfl
theorem aft_tm (X Y : Nat → Bool) (t : Nat) : ∀ (ms : List MOp) (rs : List Rec) (i : Nat) (st st2 : St), st.tm.length = st2.tm.length → st.tm[t]? = st2.tm[t]? →
    (∀ (n : Nat) (m : MOp), ms[n]? = some m → X (i + n) ≠ Y (i + n) → m.d ≠ some t) → (aft X i ms rs st).tm[t]? = (aft Y i ms rs st2).tm[t]? := by
  intro ms
  induction ms with
  | nil => intro rs i st st2 _ h _; simpa [aft] using h
  | cons m ms ih =>
    intro rs i st st2 hl h hd
    cases rs with
    | nil => simpa [aft] using h
    | cons r rs =>
      simp only [aft]
      refine ih rs (i + 1) _ _ ?_ ?_ fun n m' hm hne => hd (n + 1) m' (by simpa using hm) (by rw [show i + (n + 1) = i + 1 + n by omega]; exact hne)
      · split <;> split <;> simp [on_len, hl]
      · have h0 := hd 0 m rfl
        cases hx : X i <;> cases hy : Y i <;> simp [hx, hy] at h0 ⊢
        · exact h
        · rw [on_tm]; simp [h0, h]
        · rw [on_tm]; simp [h0, h]
        · rw [on_tm, on_tm, hl, h]
theorem aft_own (X Y : Nat → Bool) (k : Nat) : ∀ (ms : List MOp) (rs : List Rec) (i : Nat) (st st2 : St), look k st.own = look k st2.own →
    (∀ (n : Nat) (r : Rec), rs[n]? = some r → X (i + n) ≠ Y (i + n) → wlook k r.out.ws = none) → look k (aft X i ms rs st).own = look k (aft Y i ms rs st2).own := by
  intro ms
  induction ms with
  | nil => intro rs i st st2 h _; simpa [aft] using h
  | cons m ms ih =>
    intro rs i st st2 h hd
    cases rs with
    | nil => simpa [aft] using h
    | cons r rs =>
      simp only [aft]
      refine ih rs (i + 1) _ _ ?_ fun n m' hm hne => hd (n + 1) m' (by simpa using hm) (by rw [show i + (n + 1) = i + 1 + n by omega]; exact hne)
      have h0 := hd 0 r rfl
      have nw : wlook k r.out.ws = none → ∀ s : St, look k (r.on m s).own = look k s.own := fun hb s => by
        rw [on_own, hb]
      cases hx : X i <;> cases hy : Y i <;> simp [hx, hy] at h0 ⊢
      · exact h
      · rw [nw h0]; exact h
      · rw [nw h0]; exact h
      · rw [on_own, on_own, h]
theorem aft_none (X : Nat → Bool) : ∀ (ms : List MOp) (rs : List Rec) (i : Nat) (st : St), (∀ n, X (i + n) = false) → aft X i ms rs st = st := by
  intro ms
  induction ms with
  | nil => intro rs i st _; simp [aft]
  | cons m ms ih =>
    intro rs i st h
    cases rs with
    | nil => simp [aft]
    | cons r rs =>
      have h0 := h 0
      simp only [Nat.add_zero] at h0
      simp only [aft, h0, Bool.false_eq_true, if_false]
      exact ih rs (i + 1) st fun n => by rw [show i + 1 + n = i + (n + 1) by omega]; exact h _
theorem aft_tm_last (X : Nat → Bool) (t : Nat) : ∀ (n : Nat) (ms : List MOp) (rs : List Rec) (i : Nat) (st : St) (m : MOp) (r : Rec), ms[n]? = some m → rs[n]? = some r → X (i + n) = true → m.d = some t → t < st.tm.length →
    (∀ (n' : Nat) (m' : MOp), n < n' → ms[n']? = some m' → X (i + n') = true → m'.d ≠ some t) → (aft X i ms rs st).tm[t]? = some r.out.v := by
  intro n
  induction n with
  | zero =>
    intro ms rs i st m r hm hr hx hd ht hlast
    cases ms with
    | nil => simp at hm
    | cons m0 ms =>
      cases rs with
      | nil => simp at hr
      | cons r0 rs =>
        simp at hm hr; subst hm hr
        simp only [Nat.add_zero] at hx
        simp only [aft, hx, if_true]
        have h1 := aft_tm X (fun _ => false) t ms rs (i + 1) (r0.on m0 st) (r0.on m0 st) rfl rfl fun n m' hm' hne => by
          refine hlast (n + 1) m' (by omega) (by simpa using hm') ?_
          rw [show i + (n + 1) = i + 1 + n by omega]
          cases e : X (i + 1 + n)
          · exact absurd e hne
          · rfl
        rw [h1, aft_none _ _ _ _ _ (fun _ => rfl), on_tm]
        simp [hd, ht]
  | succ n ih =>
    intro ms rs i st m r hm hr hx hd ht hlast
    cases ms with
    | nil => simp at hm
    | cons m0 ms =>
      cases rs with
      | nil => simp at hr
      | cons r0 rs =>
        simp only [aft]
        refine ih ms rs (i + 1) _ m r (by simpa using hm) (by simpa using hr) (by rw [show i + 1 + n = i + (n + 1) by omega]; exact hx) hd ?_ fun n' m' hlt hm' hx' => ?_
        · split
          · rw [on_len]; exact ht
          · exact ht
        · exact hlast (n' + 1) m' (by omega) (by simpa using hm') (by rw [show i + (n' + 1) = i + 1 + n' by omega]; exact hx')
theorem aft_own_last (X : Nat → Bool) (k : Nat) (b : Blk) : ∀ (n : Nat) (ms : List MOp) (rs : List Rec) (i : Nat) (st : St) (m : MOp) (r : Rec), ms[n]? = some m → rs[n]? = some r → X (i + n) = true → wlook k r.out.ws = some b →
    (∀ (n' : Nat) (r' : Rec), n < n' → rs[n']? = some r' → X (i + n') = true → wlook k r'.out.ws = none) → look k (aft X i ms rs st).own = some b := by
  intro n
  induction n with
  | zero =>
    intro ms rs i st m r hm hr hx hd hlast
    cases ms with
    | nil => simp at hm
    | cons m0 ms =>
      cases rs with
      | nil => simp at hr
      | cons r0 rs =>
        simp at hm hr; subst hm hr
        simp only [Nat.add_zero] at hx
        simp only [aft, hx, if_true]
        have h1 := aft_own X (fun _ => false) k ms rs (i + 1) (r0.on m0 st) (r0.on m0 st) rfl fun n m' hm' hne => by
          refine hlast (n + 1) m' (by omega) (by simpa using hm') ?_
          rw [show i + (n + 1) = i + 1 + n by omega]
          cases e : X (i + 1 + n)
          · exact absurd e hne
          · rfl
        rw [h1, aft_none _ _ _ _ _ (fun _ => rfl), on_own, hd]
  | succ n ih =>
    intro ms rs i st m r hm hr hx hd hlast
    cases ms with
    | nil => simp at hm
    | cons m0 ms =>
      cases rs with
      | nil => simp at hr
      | cons r0 rs =>
        simp only [aft]
        refine ih ms rs (i + 1) _ m r (by simpa using hm) (by simpa using hr) (by rw [show i + 1 + n = i + (n + 1) by omega]; exact hx) hd fun n' m' hlt hm' hx' => ?_
        exact hlast (n' + 1) m' (by omega) (by simpa using hm') (by rw [show i + (n' + 1) = i + 1 + n' by omega]; exact hx')

theorem Chain.skips {Γ : Env} {ms : List MOp} {rs : List Rec} {ks : List Log} {st st' : St} (h : Chain Γ ms rs ks st st') : ∀ (n : Nat) (m : MOp) (r : Rec) (k : Log), ms[n]? = some m → rs[n]? = some r → ks[n]? = some k → r.ran = false → k = [] := by
  induction h with
  | nil => intro n m r k hm; simp at hm
  | ran m u lg ms rs ks st st' hg hl h ih =>
    intro n m' r k hm hr hk
    cases n with
    | zero => simp at hr; subst hr; intro h; cases h
    | succ n => exact ih n m' r k (by simpa using hm) (by simpa using hr) (by simpa using hk)
  | skip m t b ms rs ks st st' hg hv hd h ih =>
    intro n m' r k hm hr hk
    cases n with
    | zero => simp at hk; intro _; exact hk
    | succ n => exact ih n m' r k (by simpa using hm) (by simpa using hr) (by simpa using hk)
  | may m v ms rs ks st st' hg hl h ih =>
    intro n m' r k hm hr hk
    cases n with
    | zero => simp at hk; intro _; exact hk
    | succ n => exact ih n m' r k (by simpa using hm) (by simpa using hr) (by simpa using hk)
  | hole m ms rs ks st st' h ih =>
    intro n m' r k hm hr hk
    cases n with
    | zero => simp at hk; intro _; exact hk
    | succ n => exact ih n m' r k (by simpa using hm) (by simpa using hr) (by simpa using hk)
def NodeOk (Γ : Env) (m : MOp) (r : Rec) (k : Log) (st : St) : Prop :=
  (r.ran = true ∧ r.hole = false ∧ (m.g = none ∨ ∃ t b, m.g = some (t, b) ∧ st.tm[t]? = some (.t (.bool b))) ∧ Local Γ m.d m.op st.tm st.own r.out k) ∨
  (r.ran = false ∧ r.hole = false ∧ (∃ t b, m.g = some (t, b) ∧ (st.tm[t]? = some (.t (.bool (!b))) ∨ ∃ l, st.tm[t]? = some (.t (.tup l)))) ∧ r.out = ⟨.t .undef, []⟩) ∨
  (k = [] ∧ r.hole = false ∧ m.g = none ∧ ∃ v, r.out = ⟨v, []⟩ ∧ PLoc Γ m.d m.op st.tm v) ∨
  (k = [] ∧ r.hole = true ∧ r.out = ⟨.dead, []⟩)
theorem Chain.at {Γ : Env} {ms : List MOp} {rs : List Rec} {ks : List Log} {st st' : St} (h : Chain Γ ms rs ks st st') : ∀ (n i : Nat) (m : MOp) (r : Rec) (k : Log), ms[n]? = some m → rs[n]? = some r → ks[n]? = some k →
    NodeOk Γ m r k (aft (fun j => decide (j < i + n)) i ms rs st) := by
  induction h with
  | nil => intro n i m r k hm; simp at hm
  | ran m u lg ms rs ks st st' hg hl h ih =>
    intro n i m' r k hm hr hk
    cases n with
    | zero =>
      simp at hm hr hk; subst hm hr hk
      rw [aft_none _ _ _ _ _ (fun n => by simp)]
      exact .inl ⟨rfl, rfl, hg, hl⟩
    | succ n =>
      simp only [aft]
      rw [if_pos (by simp)]
      have := ih n (i + 1) m' r k (by simpa using hm) (by simpa using hr) (by simpa using hk)
      rw [show i + 1 + n = i + (n + 1) by omega] at this
      exact this
  | skip m t b ms rs ks st st' hg hv hd h ih =>
    intro n i m' r k hm hr hk
    cases n with
    | zero =>
      simp at hm hr hk; subst hm hr hk
      rw [aft_none _ _ _ _ _ (fun n => by simp)]
      exact .inr (.inl ⟨rfl, rfl, ⟨t, b, hg, hv⟩, rfl⟩)
    | succ n =>
      simp only [aft]
      rw [if_pos (by simp)]
      have := ih n (i + 1) m' r k (by simpa using hm) (by simpa using hr) (by simpa using hk)
      rw [show i + 1 + n = i + (n + 1) by omega] at this
      exact this
  | may m v ms rs ks st st' hg hl h ih =>
    intro n i m' r k hm hr hk
    cases n with
    | zero =>
      simp at hm hr hk; subst hm hr hk
      rw [aft_none _ _ _ _ _ (fun n => by simp)]
      exact .inr (.inr (.inl ⟨rfl, rfl, hg, v, rfl, hl⟩))
    | succ n =>
      simp only [aft]
      rw [if_pos (by simp)]
      have := ih n (i + 1) m' r k (by simpa using hm) (by simpa using hr) (by simpa using hk)
      rw [show i + 1 + n = i + (n + 1) by omega] at this
      exact this
  | hole m ms rs ks st st' h ih =>
    intro n i m' r k hm hr hk
    cases n with
    | zero =>
      simp at hm hr hk; subst hm hr hk
      exact .inr (.inr (.inr ⟨rfl, rfl, rfl⟩))
    | succ n =>
      simp only [aft]
      rw [if_pos (by simp)]
      have := ih n (i + 1) m' r k (by simpa using hm) (by simpa using hr) (by simpa using hk)
      rw [show i + 1 + n = i + (n + 1) by omega] at this
      exact this

theorem hp_map : ∀ ts : List T, hasPtr (ts.map .t) = false
  | [] => rfl
  | _ :: r => hp_map r
theorem toTs_map : ∀ (ts : List T) (f : List T → Pg), toTsP (ts.map .t) f = f ts
  | [], f => rfl
  | x :: r, f => toTs_map r fun l => f (x :: l)
theorem pureK_elim : ∀ {vs : List V} {K : List T → Prop}, pureK vs K → ∃ ts, vs = ts.map .t ∧ K ts
  | [], K, h => ⟨[], rfl, h⟩
  | v :: r, K, h => by
    unfold pureK at h
    split at h
    · obtain ⟨ts, e, h'⟩ := pureK_elim h
      exact ⟨_ :: ts, by rw [e]; rfl, h'⟩
    · exact h.elim
theorem callP_run {g : List T → AnsP} {ts : List T} {key : Nat} {own : Own} {p : Prop} {c : Bool} {x : T} {y : Option T} (hg : g ts = .br p c x y) (hp : p) {F : V → Own → Log → Prop} (h : F (.t (.tup [.bool c, x, optT y])) own []) :
    run false (callP (encP g) (ts.map .t) key) own [] F := by
  unfold callP
  rw [hp_map]
  dsimp only
  rw [toTs_map]
  unfold encP
  rw [hg]
  exact reqK_of hp h
theorem panK_elim {Γ : Env} {d : Option Nat} {tm : List V} {own : Own} {op : MK} {A : St → Prop} {B : Option T → Prop} (h : panK Γ d ⟨tm, own⟩ op A B) :
    (∃ v, A ((Out.mk v []).on d ⟨tm, own⟩) ∧ PLoc Γ d op tm v) ∨ ∃ y, B y ∧ PPan Γ d op tm y := by
  have ev : ∀ {tm' : List V} {x : Opd} {v : V}, Same0 op tm tm' → x ∈ opds op → evF Γ tm x = some v → evF Γ tm' x = some v := fun hs hx hv => by
    rw [← hv]
    rename_i x _
    cases x with
    | t i => exact hs.2 _ hx i rfl
    | k x => rfl
    | g i => rfl
  have put : ∀ {v : V} {tm' : List V} {own' : Own} {K : St → Prop}, (∀ i, d = some i → i < tm.length) → tm'.length = tm.length → K ((Out.mk v []).on d ⟨tm', own'⟩) → putK ⟨tm', own'⟩ d v K := fun h1 h2 h3 =>
    putK_mk (fun i hi => by show i < _; rw [h2]; exact h1 i hi) h3
  unfold panK at h
  split at h
  · rename_i key f args
    split at h
    · rename_i g hg
      dsimp only at h
      obtain ⟨vs, hv1, hv2, h⟩ := evsK_elim h
      obtain ⟨ts, e, h0⟩ := pureK_elim h
      subst e
      clear h
      revert h0; intro h
      split at h
      · rename_i p c x y hgt
        obtain ⟨hp, h⟩ := reqK_elim h
        have go : ∀ tm' own' (K : Ex → St → Prop), Same0 (.call key f args) tm tm' → brK c (putK ⟨tm', own'⟩ d (.t x) fun st => K .normal st) (K (.pan y) ⟨tm', own'⟩) → stepP Γ d ⟨tm', own'⟩ (.call key f args) K := by
          intro tm' own' K hs hK
          unfold stepP
          dsimp only
          rw [hg]
          dsimp only
          refine evsK_mk (vs := ts.map .t) hv1 (fun i x hx => ?_) (callP_run hgt hp ?_)
          · obtain ⟨w, h1, h2⟩ := hv2 i x hx
            exact ⟨w, h1, ev hs (List.mem_cons_of_mem _ (List.mem_of_getElem? hx)) h2⟩
          · cases y with
            | none => exact hK
            | some t => exact hK
        rcases brK_elim h with ⟨ec, h7⟩ | ⟨ec, h7⟩ <;> subst ec
        · obtain ⟨h1, h2⟩ := putK_elim h7
          exact .inl ⟨_, h2, fun tm' own' hs K hK => go tm' own' K hs (brK_true rfl (put h1 hs.1 hK))⟩
        · exact .inr ⟨y, h7, fun tm' own' hs K hK => go tm' own' K hs (brK_false rfl hK)⟩
      · exact h.elim
    · exact h.elim
  · rename_i t z ok x
    split at h
    · exact h.elim
    · dsimp only at h
      obtain ⟨v, hv, h⟩ := evK_elim h
      have go : ∀ (tm' : List V) (own' : Own) (K : Ex → St → Prop) (Z : Prop), Same0 (.tas t z false x) tm tm' → (∀ W : V → Prop, W v → evK Γ tm' x W) := fun tm' own' K Z hs W hW =>
        evK_mk (ev hs (by simp [opds]) hv) hW
      split at h
      · rename_i t' y
        split at h
        · rename_i e
          obtain ⟨h1, h2⟩ := putK_elim h
          refine .inl ⟨_, h2, fun tm' own' hs K hK => ?_⟩
          unfold stepP
          dsimp only
          refine go tm' own' K True hs _ ?_
          dsimp only
          rw [e]
          dsimp only
          unfold stepK
          dsimp only
          have hvs : evsK Γ tm' (opds (.tas t z false x)) fun vs => run false (prog Γ.base (.tas t z false x) vs) own' [] fun v own' log => putK ⟨tm', own'⟩ d v fun st => K .normal st := by
            refine evK_mk (ev hs (by simp [opds]) hv) ?_
            show run false (natP (Nat.beq t' t) (.ret (.t y))) own' [] _
            rw [e]
            exact put h1 hs.1 hK
          exact hvs
        · rename_i e
          refine .inr ⟨none, h, fun tm' own' hs K hK => ?_⟩
          unfold stepP
          dsimp only
          refine go tm' own' K True hs _ ?_
          dsimp only
          rw [e]
          exact hK
      · refine .inr ⟨none, h, fun tm' own' hs K hK => ?_⟩
        unfold stepP
        dsimp only
        exact go tm' own' K True hs _ hK
      · exact h.elim
  · exact h.elim
theorem inH_spec {t : Nat} : ∀ {hs : List Nat}, inH t hs = true → t ∈ hs
  | [], h => by cases h
  | j :: r, h => by
    unfold inH at h
    split at h
    · rename_i e; rw [Nat.eq_of_beq_eq_true e]; exact List.mem_cons_self
    · exact List.mem_cons_of_mem _ (inH_spec h)
theorem anyH_spec {hs : List Nat} : ∀ {xs : List Opd}, anyH hs xs = true → ∃ t ∈ hs, ∃ x ∈ xs, t ∈ opdT x
  | [], h => by cases h
  | x :: r, h => by
    have rec' : anyH hs r = true → ∃ t ∈ hs, ∃ y ∈ x :: r, t ∈ opdT y := fun h => by
      obtain ⟨t, h1, y, h2, h3⟩ := anyH_spec h
      exact ⟨t, h1, y, List.mem_cons_of_mem _ h2, h3⟩
    unfold anyH at h
    split at h
    · rename_i i
      split at h
      · rename_i e
        exact ⟨i, inH_spec e, .t i, List.mem_cons_self, by simp [opdT]⟩
      · exact rec' h
    · exact rec' h
theorem holeQ_spec {hs : List Nat} {m : MOp} (h : holeQ hs m = true) : ∃ t ∈ hs, t ∈ rdT m := by
  obtain ⟨d, op, g⟩ := m
  have key : anyH hs (opds op) = true → ∃ t ∈ hs, t ∈ rdT ⟨d, op, g⟩ := fun h => by
    obtain ⟨t, h1, x, h2, h3⟩ := anyH_spec h
    exact ⟨t, h1, List.mem_append.2 (.inr (List.mem_flatMap.2 ⟨x, h2, h3⟩))⟩
  unfold holeQ at h
  dsimp only at h
  split at h
  · exact key h
  · rename_i p
    split at h
    · rename_i e
      exact ⟨p.1, inH_spec e, List.mem_append.2 (.inl (by simp))⟩
    · exact key h
def HolesOk (hs : List Nat) (ms : List MOp) (rs : List Rec) : Prop :=
  ∀ (n : Nat) (m : MOp) (r : Rec), ms[n]? = some m → rs[n]? = some r → r.hole = true → ∃ t ∈ rdT m, t ∈ hs ∨ ∃ (n' : Nat) (m' : MOp) (r' : Rec), n' < n ∧ ms[n']? = some m' ∧ rs[n']? = some r' ∧ r'.hole = true ∧ m'.d = some t
theorem HolesOk.cons {hs : List Nat} {ms : List MOp} {rs : List Rec} (h : HolesOk hs ms rs) (m : MOp) (r : Rec) (hr : r.hole = false) : HolesOk hs (m :: ms) (r :: rs) := by
  intro n m' r' h1 h2 h3
  cases n with
  | zero => simp at h2; subst h2; rw [hr] at h3; cases h3
  | succ n =>
    obtain ⟨t, ht, k⟩ := h n m' r' (by simpa using h1) (by simpa using h2) h3
    refine ⟨t, ht, k.imp id ?_⟩
    rintro ⟨n', m'', r'', k1, k2, k3, k4, k5⟩
    exact ⟨n' + 1, m'', r'', by omega, by simpa using k2, by simpa using k3, k4, k5⟩
theorem HolesOk.hole {hs : List Nat} {ms : List MOp} {rs : List Rec} {m : MOp} (h : HolesOk (addH m.d hs) ms rs) {r : Rec} (hr : r.hole = true) (hq : ∃ t ∈ hs, t ∈ rdT m) : HolesOk hs (m :: ms) (r :: rs) := by
  intro n m' r' h1 h2 h3
  cases n with
  | zero =>
    simp at h1; subst h1
    obtain ⟨t, a, b⟩ := hq
    exact ⟨t, b, .inl a⟩
  | succ n =>
    obtain ⟨t, ht, k⟩ := h n m' r' (by simpa using h1) (by simpa using h2) h3
    refine ⟨t, ht, ?_⟩
    rcases k with k | ⟨n', m'', r'', k1, k2, k3, k4, k5⟩
    · unfold addH at k
      split at k
      · exact .inl k
      · rename_i i hd
        rcases List.mem_cons.1 k with rfl | k
        · exact .inr ⟨0, m, r, by omega, rfl, rfl, hr, hd⟩
        · exact .inl k
    · exact .inr ⟨n' + 1, m'', r'', by omega, by simpa using k2, by simpa using k3, k4, k5⟩
theorem runH_chain {Γ : Env} : ∀ (ms : List MOp) (hs : List Nat) (st : St) (log : List Log) (K : List Log → Prop), runH Γ ms hs st log K → ∃ rs ks st', Chain Γ ms rs ks st st' ∧ HolesOk hs ms rs ∧ K (log.reverse ++ ks) := by
  intro ms
  induction ms with
  | nil =>
    intro hs st log K h
    simp only [runH_nil, revL_eq] at h
    exact ⟨[], [], st, .nil st, (fun n m r h => by simp at h), by simpa using h⟩
  | cons m ms ih =>
    intro hs st log K h
    obtain ⟨d, op, g⟩ := m
    obtain ⟨tm, own⟩ := st
    simp only [runH_cons] at h
    split at h
    · rename_i hq
      obtain ⟨h1, h2⟩ := putK_elim h
      obtain ⟨rs, ks, st', h3, h4, h5⟩ := ih _ _ _ _ h2
      exact ⟨_, _, st', .hole ⟨d, op, g⟩ ms rs ks ⟨tm, own⟩ st' h3, h4.hole rfl (holeQ_spec hq), by simpa using h5⟩
    have run : ((⟨d, op, g⟩ : MOp).g = none ∨ ∃ t b, (⟨d, op, g⟩ : MOp).g = some (t, b) ∧ tm[t]? = some (.t (.bool b))) → stepK Γ true d ⟨tm, own⟩ op (fun st ks => runH Γ ms hs st (ks :: log) K) →
        ∃ rs ks st', Chain Γ (⟨d, op, g⟩ :: ms) rs ks ⟨tm, own⟩ st' ∧ HolesOk hs (⟨d, op, g⟩ :: ms) rs ∧ K (log.reverse ++ ks) := fun hg hst => by
      obtain ⟨u, lg, h1, h2⟩ := step_local hst
      obtain ⟨rs, ks, st', h3, h4, h5⟩ := ih _ _ _ _ h1
      exact ⟨_, _, st', .ran ⟨d, op, g⟩ u lg ms rs ks ⟨tm, own⟩ st' hg h2 h3, h4.cons _ _ rfl, by simpa using h5⟩
    have skip : ∀ t b, g = some (t, b) → (tm[t]? = some (.t (.bool (!b))) ∨ ∃ l, tm[t]? = some (.t (.tup l))) → putK ⟨tm, own⟩ d (.t .undef) (fun st => runH Γ ms hs st ([] :: log) K) →
        ∃ rs ks st', Chain Γ (⟨d, op, g⟩ :: ms) rs ks ⟨tm, own⟩ st' ∧ HolesOk hs (⟨d, op, g⟩ :: ms) rs ∧ K (log.reverse ++ ks) := fun t b hg hv hst => by
      obtain ⟨h1, h2⟩ := putK_elim hst
      obtain ⟨rs, ks, st', h3, h4, h5⟩ := ih _ _ _ _ h2
      exact ⟨_, _, st', .skip ⟨d, op, g⟩ t b ms rs ks ⟨tm, own⟩ st' hg hv h1 h3, h4.cons _ _ rfl, by simpa using h5⟩
    cases g with
    | none => exact run (.inl rfl) h
    | some p =>
      obtain ⟨t, b⟩ := p
      dsimp only at h
      obtain ⟨v, hv, h⟩ := getK_elim h
      split at h
      · rename_i c
        cases b
        · (have h0 := brK_elim h; clear h); rcases h0 with ⟨e, h⟩ | ⟨e, h⟩ <;> subst e
          · exact skip t false rfl (.inl hv) h
          · exact run (.inr ⟨t, false, rfl, hv⟩) h
        · (have h0 := brK_elim h; clear h); rcases h0 with ⟨e, h⟩ | ⟨e, h⟩ <;> subst e
          · exact run (.inr ⟨t, true, rfl, hv⟩) h
          · exact skip t true rfl (.inl hv) h
      · exact skip t b rfl (.inr ⟨_, hv⟩) h
      · exact h.elim
structure Falls (Γ : Env) (ms : List MOp) (rs : List Rec) (st : St) (p : Nat) (y : Option T) : Prop where
  at_ : ∃ (m : MOp) (r : Rec), ms[p]? = some m ∧ rs[p]? = some r ∧ r.hole = true ∧ m.g = none ∧ ∀ i, PPan Γ m.d m.op (aft (fun j => decide (j < i + p)) i ms rs st).tm y
  holes : ∀ (n : Nat) (m : MOp) (r : Rec), ms[n]? = some m → rs[n]? = some r → r.hole = true → n = p ∨ ∃ t ∈ rdT m, ∃ (n' : Nat) (m' : MOp) (r' : Rec), n' < n ∧ ms[n']? = some m' ∧ rs[n']? = some r' ∧ r'.hole = true ∧ m'.d = some t
theorem Falls.cons {Γ : Env} {ms : List MOp} {rs : List Rec} {st : St} {p : Nat} {y : Option T} {m : MOp} {r : Rec} (h : Falls Γ ms rs (r.on m st) p y) (hr : r.hole = false) : Falls Γ (m :: ms) (r :: rs) st (p + 1) y := by
  obtain ⟨⟨m', r', h1, h2, h3, h4, h5⟩, hh⟩ := h
  refine ⟨⟨m', r', by simpa using h1, by simpa using h2, h3, h4, fun i => ?_⟩, fun n m'' r'' k1 k2 k3 => ?_⟩
  · simp only [aft]
    rw [if_pos (by simp)]
    have := h5 (i + 1)
    rw [show i + 1 + p = i + (p + 1) by omega] at this
    exact this
  · cases n with
    | zero => simp at k2; subst k2; rw [hr] at k3; cases k3
    | succ n =>
      rcases hh n m'' r'' (by simpa using k1) (by simpa using k2) k3 with rfl | ⟨t, ht, n', a, b, c1, c2, c3, c4, c5⟩
      · exact .inl rfl
      · exact .inr ⟨t, ht, n' + 1, a, b, by omega, by simpa using c2, by simpa using c3, c4, c5⟩
theorem runE_chain {Γ : Env} : ∀ (ms : List MOp) (st : St) (log : List Log) (K : St → List Log → Prop) (KP : Option T → List Log → Prop), runE Γ ms st log K KP →
    (∃ rs ks st', Chain Γ ms rs ks st st' ∧ (∀ (n : Nat) (r : Rec), rs[n]? = some r → r.hole = false) ∧ K st' (log.reverse ++ ks)) ∨
    ∃ rs ks st' p y, Chain Γ ms rs ks st st' ∧ Falls Γ ms rs st p y ∧ KP y (log.reverse ++ ks) := by
  intro ms
  induction ms with
  | nil =>
    intro st log K KP h
    simp only [runE_nil, revL_eq] at h
    exact .inl ⟨[], [], st, .nil st, (fun n r h => by simp at h), by simpa using h⟩
  | cons m ms ih =>
    intro st log K KP h
    obtain ⟨d, op, g⟩ := m
    obtain ⟨tm, own⟩ := st
    have nh : ∀ (r0 : Rec) (rs : List Rec), r0.hole = false → (∀ (n : Nat) (r : Rec), rs[n]? = some r → r.hole = false) → ∀ (n : Nat) r, (r0 :: rs)[n]? = some r → r.hole = false := fun r0 rs h0 hr n r hn => by
      cases n with
      | zero => simp at hn; subst hn; exact h0
      | succ n => exact hr n r (by simpa using hn)
    simp only [runE_cons] at h
    split at h
    · rename_i hmay
      have hg : g = none := by
        cases g with
        | none => rfl
        | some p => simp [mayP] at hmay
      subst hg
      rcases panK_elim h with ⟨v, h1, h2⟩ | ⟨y, h1, h2⟩
      · rcases ih _ _ _ _ h1 with ⟨rs, ks, st', h3, h4, h5⟩ | ⟨rs, ks, st', p, y, h3, h4, h5⟩
        · exact .inl ⟨_, _, st', .may ⟨d, op, none⟩ v ms rs ks ⟨tm, own⟩ st' rfl h2 h3, nh _ _ rfl h4, by simpa using h5⟩
        · exact .inr ⟨_, _, st', p + 1, y, .may ⟨d, op, none⟩ v ms rs ks ⟨tm, own⟩ st' rfl h2 h3, h4.cons (m := ⟨d, op, none⟩) (r := ⟨true, false, ⟨v, []⟩⟩) (st := ⟨tm, own⟩) rfl, by simpa using h5⟩
      · obtain ⟨h3, h4⟩ := putK_elim h1
        obtain ⟨rs, ks, st', h5, h6, h7⟩ := runH_chain _ _ _ _ _ h4
        refine .inr ⟨_, _, st', 0, y, .hole ⟨d, op, none⟩ ms rs ks ⟨tm, own⟩ st' h5, ⟨⟨⟨d, op, none⟩, _, rfl, rfl, rfl, rfl, fun i => ?_⟩, fun n m r k1 k2 k3 => ?_⟩, by simpa using h7⟩
        · rw [aft_none _ _ _ _ _ (fun n => by simp)]; exact h2
        · cases n with
          | zero => exact .inl rfl
          | succ n =>
            obtain ⟨t, ht, k⟩ := h6 n m r (by simpa using k1) (by simpa using k2) k3
            refine .inr ⟨t, ht, ?_⟩
            rcases k with k | ⟨n', m'', r'', c1, c2, c3, c4, c5⟩
            · have hd : d = some t := by
                unfold addH at k
                split at k
                · cases k
                · rename_i i; rw [List.mem_singleton] at k; rw [k]
              exact ⟨0, ⟨d, op, none⟩, _, by omega, rfl, rfl, rfl, hd⟩
            · exact ⟨n' + 1, m'', r'', by omega, by simpa using c2, by simpa using c3, c4, c5⟩
    have run : ((⟨d, op, g⟩ : MOp).g = none ∨ ∃ t b, (⟨d, op, g⟩ : MOp).g = some (t, b) ∧ tm[t]? = some (.t (.bool b))) → stepK Γ true d ⟨tm, own⟩ op (fun st ks => runE Γ ms st (ks :: log) K KP) →
        (∃ rs ks st', Chain Γ (⟨d, op, g⟩ :: ms) rs ks ⟨tm, own⟩ st' ∧ (∀ (n : Nat) (r : Rec), rs[n]? = some r → r.hole = false) ∧ K st' (log.reverse ++ ks)) ∨
        ∃ rs ks st' p y, Chain Γ (⟨d, op, g⟩ :: ms) rs ks ⟨tm, own⟩ st' ∧ Falls Γ (⟨d, op, g⟩ :: ms) rs ⟨tm, own⟩ p y ∧ KP y (log.reverse ++ ks) := fun hg hst => by
      obtain ⟨u, lg, h1, h2⟩ := step_local hst
      rcases ih _ _ _ _ h1 with ⟨rs, ks, st', h3, h4, h5⟩ | ⟨rs, ks, st', p, y, h3, h4, h5⟩
      · exact .inl ⟨_, _, st', .ran ⟨d, op, g⟩ u lg ms rs ks ⟨tm, own⟩ st' hg h2 h3, nh _ _ rfl h4, by simpa using h5⟩
      · exact .inr ⟨_, _, st', p + 1, y, .ran ⟨d, op, g⟩ u lg ms rs ks ⟨tm, own⟩ st' hg h2 h3, h4.cons (m := ⟨d, op, g⟩) (r := ⟨true, false, u⟩) (st := ⟨tm, own⟩) rfl, by simpa using h5⟩
    have skip : ∀ t b, g = some (t, b) → (tm[t]? = some (.t (.bool (!b))) ∨ ∃ l, tm[t]? = some (.t (.tup l))) → putK ⟨tm, own⟩ d (.t .undef) (fun st => runE Γ ms st ([] :: log) K KP) →
        (∃ rs ks st', Chain Γ (⟨d, op, g⟩ :: ms) rs ks ⟨tm, own⟩ st' ∧ (∀ (n : Nat) (r : Rec), rs[n]? = some r → r.hole = false) ∧ K st' (log.reverse ++ ks)) ∨
        ∃ rs ks st' p y, Chain Γ (⟨d, op, g⟩ :: ms) rs ks ⟨tm, own⟩ st' ∧ Falls Γ (⟨d, op, g⟩ :: ms) rs ⟨tm, own⟩ p y ∧ KP y (log.reverse ++ ks) := fun t b hg hv hst => by
      obtain ⟨h1, h2⟩ := putK_elim hst
      rcases ih _ _ _ _ h2 with ⟨rs, ks, st', h3, h4, h5⟩ | ⟨rs, ks, st', p, y, h3, h4, h5⟩
      · exact .inl ⟨_, _, st', .skip ⟨d, op, g⟩ t b ms rs ks ⟨tm, own⟩ st' hg hv h1 h3, nh _ _ rfl h4, by simpa using h5⟩
      · exact .inr ⟨_, _, st', p + 1, y, .skip ⟨d, op, g⟩ t b ms rs ks ⟨tm, own⟩ st' hg hv h1 h3, h4.cons (m := ⟨d, op, g⟩) (r := ⟨false, false, ⟨.t .undef, []⟩⟩) (st := ⟨tm, own⟩) rfl, by simpa using h5⟩
    cases g with
    | none => exact run (.inl rfl) h
    | some p =>
      obtain ⟨t, b⟩ := p
      dsimp only at h
      obtain ⟨v, hv, h⟩ := getK_elim h
      split at h
      · rename_i c
        cases b
        · (have h0 := brK_elim h; clear h); rcases h0 with ⟨e, h⟩ | ⟨e, h⟩ <;> subst e
          · exact skip t false rfl (.inl hv) h
          · exact run (.inr ⟨t, false, rfl, hv⟩) h
        · (have h0 := brK_elim h; clear h); rcases h0 with ⟨e, h⟩ | ⟨e, h⟩ <;> subst e
          · exact run (.inr ⟨t, true, rfl, hv⟩) h
          · exact skip t true rfl (.inl hv) h
      · exact skip t b rfl (.inr ⟨_, hv⟩) h
      · exact h.elim
end Go.Nx
end
section
set_option linter.unusedVariables false
set_option linter.unusedSimpArgs false
namespace Go.Nx
open Go.RowKit

inductive Prec (pre : Nat → List Nat) : Nat → Nat → Prop
  | one {j i : Nat} : i ∈ pre j → Prec pre j i
  | more {j p i : Nat} : p ∈ pre j → Prec pre p i → Prec pre j i
theorem Prec.closed {pre : Nat → List Nat} {X : Nat → Prop} (hX : ∀ j, X j → ∀ p ∈ pre j, X p) {j i : Nat} (h : Prec pre j i) : (∀ p ∈ pre j, X p) → X i := by
  induction h with
  | one h => exact fun hp => hp _ h
  | more h _ ih => exact fun hp => ih (hX _ (hp _ h))

theorem mask_spec (acc : List Nat) (i : Nat) : ∀ p : List Nat, (maskOf acc p).testBit i = true → ∃ q ∈ p, i = q ∨ ((acc[q]?).getD 0).testBit i = true := by
  intro p
  induction p with
  | nil => intro h; simp [maskOf] at h
  | cons q p ih =>
    intro h
    simp only [maskOf, Nat.testBit_or, Bool.or_eq_true] at h
    rcases h with (h | h) | h
    · refine ⟨q, by simp, .inl ?_⟩
      rw [Nat.one_shiftLeft, Nat.testBit_two_pow] at h
      simpa using (of_decide_eq_true h).symm
    · exact ⟨q, by simp, .inr h⟩
    · obtain ⟨q', h1, h2⟩ := ih h
      exact ⟨q', by simp [h1], h2⟩
theorem closure_spec (pl : List (List Nat)) : ∀ (l : List (List Nat)) (acc : List Nat), (∀ (n : Nat) (p : List Nat), l[n]? = some p → (pl[acc.length + n]?).getD [] = p) →
    (∀ j i, ((acc[j]?).getD 0).testBit i = true → Prec (fun j => (pl[j]?).getD []) j i) → ∀ j i, (((closure l acc)[j]?).getD 0).testBit i = true → Prec (fun j => (pl[j]?).getD []) j i := by
  intro l
  induction l with
  | nil => intro acc _ h; exact h
  | cons p l ih =>
    intro acc hp h
    simp only [closure]
    refine ih _ (fun n q hq => ?_) fun j i hi => ?_
    · have := hp (n + 1) q (by simpa using hq)
      rw [← this]
      simp only [List.length_append, List.length_cons, List.length_nil]
      rw [show acc.length + (0 + 1) + n = acc.length + (n + 1) by omega]
    · rw [List.getElem?_append] at hi
      split at hi
      · exact h j i hi
      · rename_i hge
        by_cases e : j = acc.length
        · subst e
          simp only [Nat.sub_self, List.getElem?_cons_zero, Option.getD_some] at hi
          have h0 := hp 0 p rfl
          simp only [Nat.add_zero] at h0
          obtain ⟨q, hq, hi⟩ := mask_spec _ _ _ hi
          rcases hi with rfl | hi
          · exact .one (by rw [h0]; exact hq)
          · exact .more (by rw [h0]; exact hq) (h q i hi)
        · have : j - acc.length ≠ 0 := by omega
          rw [List.getElem?_eq_none (by simp; omega)] at hi
          simp at hi

theorem pairsAt_spec {ml : List MOp} {cl : List Nat} {j : Nat} : ∀ (l : List Nat) (r : List (Nat × Nat)), pairsAt ml cl j l = some r → ∀ i ∈ l, ∃ x y, ml[i]? = some x ∧ ml[j]? = some y ∧
    (((cl[j]?).getD 0).testBit i = true ∨ (apartT x y = true ∧ (needPair x y = true → (i, j) ∈ r))) := by
  intro l
  induction l with
  | nil => intro r _ i hi; cases hi
  | cons i0 l ih =>
    intro r h i hi
    simp only [pairsAt] at h
    split at h
    · rename_i x y l' h1 h2 h3
      have hrest := ih l' h3
      have mem : ∀ {a : Nat × Nat}, a ∈ l' → a ∈ r := by
        intro a ha
        split at h
        · cases h; exact ha
        · split at h
          · split at h
            · cases h; exact List.mem_cons_of_mem _ ha
            · cases h; exact ha
          · cases h
      rcases List.mem_cons.1 hi with rfl | hi
      · refine ⟨x, y, h1, h2, ?_⟩
        split at h
        · rename_i hc; exact .inl (by simpa using hc)
        · split at h
          · rename_i ha
            refine .inr ⟨ha, fun hn => ?_⟩
            rw [if_pos hn] at h
            cases h; exact List.mem_cons_self
          · cases h
      · obtain ⟨x', y', g1, g2, g3⟩ := hrest i hi
        refine ⟨x', y', g1, g2, ?_⟩
        rcases g3 with g3 | ⟨g3, g4⟩
        · exact .inl g3
        · exact .inr ⟨g3, fun hn => mem (g4 hn)⟩
    · cases h
theorem pairsOf_spec {ml : List MOp} {cl : List Nat} : ∀ (l : List Nat) (r : List (Nat × Nat)), pairsOf ml cl l = some r → ∀ j ∈ l, ∃ r', pairsAt ml cl j (List.range j) = some r' ∧ ∀ a ∈ r', a ∈ r := by
  intro l
  induction l with
  | nil => intro r _ i hi; cases hi
  | cons j0 l ih =>
    intro r h j hj
    simp only [pairsOf] at h
    split at h
    · rename_i a b h1 h2
      cases h
      rcases List.mem_cons.1 hj with rfl | hj
      · exact ⟨a, h1, fun x hx => List.mem_append.2 (.inl hx)⟩
      · obtain ⟨r', g1, g2⟩ := ih b h2 j hj
        exact ⟨r', g1, fun x hx => List.mem_append.2 (.inr (g2 x hx))⟩
    · cases h
theorem meets_spec {k : Nat} {b : Bool} : ∀ {m : Log}, meets k b m = false → ∀ c, (k, c) ∈ m → b = false ∧ c = false
  | [], _, c, hm => by cases hm
  | (j, c') :: r, h, c, hm => by
    simp only [meets] at h
    split at h
    · rename_i e
      split at h
      · cases h
      · split at h
        · cases h
        · rcases List.mem_cons.1 hm with hm | hm
          · cases hm; exact ⟨rfl, rfl⟩
          · exact meets_spec h c hm
    · rename_i e
      rcases List.mem_cons.1 hm with hm | hm
      · cases hm; rw [Nat.beq_refl] at e; cases e
      · exact meets_spec h c hm
theorem apartK_spec {m : Log} : ∀ {l : Log}, apartK l m = true → ∀ k b c, (k, b) ∈ l → (k, c) ∈ m → b = false ∧ c = false
  | [], _, k, b, c, hk, _ => by cases hk
  | p :: l, h, k, b, c, hk, hm => by
    simp only [apartK] at h
    split at h
    · cases h
    · rename_i e
      rcases List.mem_cons.1 hk with rfl | hk
      · exact meets_spec e c hm
      · exact apartK_spec h k b c hk hm
theorem nthL_eq (l : List Log) (n : Nat) : nthL l n = (l[n]?).getD [] := by
  induction l generalizing n with
  | nil => simp [nthL]
  | cons x r ih => cases n <;> simp [nthL, ih]
theorem chkPairs_spec {log : List Log} : ∀ {ps : List (Nat × Nat)}, chkPairs log ps = true → ∀ p ∈ ps, ∀ k b c, (k, b) ∈ (log[p.1]?).getD [] → (k, c) ∈ (log[p.2]?).getD [] → b = false ∧ c = false
  | [], _, p, hp => by cases hp
  | q :: ps, h, p, hp => by
    simp only [chkPairs] at h
    split at h
    · rename_i e
      rcases List.mem_cons.1 hp with rfl | hp
      · rw [nthL_eq, nthL_eq] at e; exact apartK_spec e
      · exact chkPairs_spec h p hp
    · cases h
theorem edgesOk_spec : ∀ (l : List Oper) (i : Nat), edgesOk i l = true → ∀ (n : Nat) (o : Oper), l[n]? = some o → ∀ p ∈ preOf o, p < i + n := by
  intro l
  induction l with
  | nil => intro i _ n o h; simp at h
  | cons x l ih =>
    intro i h n o ho p hp
    simp only [edgesOk, Bool.and_eq_true] at h
    cases n with
    | zero => simp at ho; subst ho; have := List.all_eq_true.1 h.1 p hp; simpa using this
    | succ n => have := ih (i + 1) h.2 n o (by simpa using ho) p hp; omega
theorem mem_preOf {o : Oper} {e : Edge} (he : e ∈ o.after) (hb : Region.binds .any e = true) : e.on ∈ preOf o := by
  unfold preOf
  exact List.mem_map.2 ⟨e, List.mem_filter.2 ⟨by simpa using he, hb⟩, rfl⟩
theorem of_mem_preOf {o : Oper} {p : Nat} (h : p ∈ preOf o) : ∃ e ∈ o.after, Region.binds .any e = true ∧ e.on = p := by
  unfold preOf at h
  obtain ⟨e, he, rfl⟩ := List.mem_map.1 h
  obtain ⟨h1, h2⟩ := List.mem_filter.1 he
  exact ⟨e, by simpa using h1, h2, rfl⟩
theorem lowOps_get {P : Program} {ops : Array Oper} : ∀ (l : List Oper) (ml : List MOp), lowOps P ops l = some ml → ml.length = l.length ∧
    ∀ (n : Nat) (o : Oper), l[n]? = some o → ∃ k g, lowOp P o = some k ∧ lowG ops o = some g ∧ ml[n]? = some ⟨o.dst, k, g⟩ := by
  intro l
  induction l with
  | nil => intro ml h; simp [lowOps] at h; subst h; exact ⟨rfl, fun n o h => by simp at h⟩
  | cons o r ih =>
    intro ml h
    obtain ⟨k, g, l', h1, h2, h3, rfl⟩ := lowOps_cons h
    obtain ⟨g1, g2⟩ := ih l' h3
    refine ⟨by simp [g1], fun n o' ho => ?_⟩
    cases n with
    | zero => simp at ho; subst ho; exact ⟨k, g, h1, h2, rfl⟩
    | succ n => simpa using g2 n o' (by simpa using ho)

section
variable {P : Program} {Γ : Env} {B : Base} {Q : Exit → Act → World → Prop}

theorem good_congr {st st' : St} {a : Act} {w : World} (h : Good Γ B st a w) (ht : st'.tm = st.tm) (ho : ∀ k, look k st'.own = look k st.own) : Good Γ B st' a w := by
  obtain ⟨S, ρ, hr⟩ := h
  obtain ⟨tm, own⟩ := st
  obtain ⟨tm', own'⟩ := st'
  cases ht
  have hle : OwnLe own own' := fun k b hb => ⟨b, by rw [ho]; exact hb, .refl b⟩
  refine ⟨S, ρ, hr.move (C := fun _ _ => False) ?_ (Keep.refl _ w) (fun _ _ h => h.elim) (fun _ _ h => h) (fun _ _ h => .inl h) hle (fun _ _ _ => rfl) fun b o hc => .inl ?_⟩
  · exact hr.mem.move (C := fun _ _ => False) (Keep.refl _ w) (fun _ _ h => h.elim) (fun _ _ h => h) hr.mem.lt hle (fun _ _ _ => rfl)
      (fun k blk hk => by
        rw [ho] at hk
        exact .inl ⟨hk, fun b o hc => ⟨fun h => h, (hr.mem.cl k blk hk b o hc).2⟩⟩)
      (fun k k' b b' hk hk' => hr.mem.disj k k' b b' (by rw [← ho]; exact hk) (by rw [← ho]; exact hk'))
  · obtain ⟨k, blk, h1, h2⟩ := hc
    exact ⟨k, blk, by rw [← ho]; exact h1, h2⟩

def unl (n : Nat) (listed : Array Bool) : Nat := ((List.range n).filter fun i => !listed.getD i true).length
theorem unl_set {n : Nat} {listed : Array Bool} {i : Nat} (hs : listed.size = n) (hi : i < n) (hu : listed.getD i true = false) : unl n (listed.setIfInBounds i true) < unl n listed := by
  unfold unl
  have h1 : ∀ j, ((listed.setIfInBounds i true).getD j true) = (if j = i then true else listed.getD j true) := by
    intro j
    by_cases e : j = i
    · subst e; simp [hs, hi]
    · rw [if_neg e, getD_set_ne true (Ne.symm e)]
  rw [← List.countP_eq_length_filter, ← List.countP_eq_length_filter]
  have h2 : (List.range n).countP (fun j => !(listed.setIfInBounds i true).getD j true) + (List.range n).countP (fun j => j == i) ≤ (List.range n).countP (fun j => !listed.getD j true) := by
    generalize List.range n = l
    induction l with
    | nil => simp
    | cons j l ih =>
      simp only [List.countP_cons, h1]
      simp only [h1] at ih
      by_cases e : j = i
      · subst e; simp [hu] at ih ⊢; omega
      · simp only [e, if_false, beq_iff_eq] at ih ⊢
        split <;> omega
  have h3 : 0 < (List.range n).countP (fun j => j == i) := List.countP_pos_iff.2 ⟨i, by simp [hi], by simp⟩
  omega

theorem any_order (hΓ : EnvOk P Γ) {ops : Array Oper} {ml : List MOp} {rs : List Rec} {ks : List Log} {st0 stF : St} {pairs : List (Nat × Nat)} (hl : lowOps P ops ops.toList = some ml) (hc : Chain Γ ml rs ks st0 stF)
    (hd : lowDraw ops.toList ml = some pairs) (hk : ∀ p ∈ pairs, ∀ k b c, (k, b) ∈ (ks[p.1]?).getD [] → (k, c) ∈ (ks[p.2]?).getD [] → b = false ∧ c = false)
    (hQ : (∀ (n : Nat) (r : Rec), rs[n]? = some r → r.hole = false) → ∀ a' w', Good Γ B stF a' w' → Q .normal a' w')
    (hP : (∀ (n : Nat) (r : Rec), rs[n]? = some r → r.hole = false) ∨ ∃ p y, Falls Γ ml rs st0 p y ∧ ∀ X S' ρ' a' w' u, Rel Γ B S' ρ' (aft X 0 ml rs st0) a' w' → PanR S' w' y u → Q (.panic [{ v := u, recovered := false }]) a' w') :
    ∀ (fuel : Nat) (listed : Array Bool) (a : Act) (w : World), listed.size = ops.size → (∀ j, listed.getD j false = true → ∀ o, ops[j]? = some o → ∀ p ∈ preOf o, listed.getD p false = true) → unl ops.size listed ≤ fuel →
      (∀ (n : Nat) (r : Rec), rs[n]? = some r → r.hole = true → listed.getD n false = false) → Good Γ B (aft (fun j => listed.getD j false) 0 ml rs st0) a w → wpAny P .any ops Q fuel listed a w := by
  obtain ⟨hlen, hget⟩ := lowOps_get _ _ hl
  have hlen' : ml.length = ops.size := by simpa using hlen
  obtain ⟨hrs, hks⟩ := hc.lens
  have hskip := hc.skips
  unfold lowDraw at hd
  split at hd
  case isFalse => cases hd
  rename_i hedges
  have hedge := edgesOk_spec _ _ hedges
  -- the edges' relation
  let pl := ops.toList.map preOf
  have hpre : ∀ (j : Nat) (o : Oper), ops[j]? = some o → (pl[j]?).getD [] = preOf o := fun j o ho => by
    have : ops.toList[j]? = some o := by simpa using ho
    simp [pl, ho]
  have hcl : ∀ j i, (((closure pl [])[j]?).getD 0).testBit i = true → Prec (fun j => (pl[j]?).getD []) j i :=
    closure_spec pl pl [] (fun n p hp => by simp [hp]) (fun j i hi => by simp at hi)
  -- two of which none must go ahead
  have conf : ∀ i j, i < j → j < ml.length → ∃ x y, ml[i]? = some x ∧ ml[j]? = some y ∧ (Prec (fun j => (pl[j]?).getD []) j i ∨ (apartT x y = true ∧ (needPair x y = true → ∀ k b c, (k, b) ∈ (ks[i]?).getD [] → (k, c) ∈ (ks[j]?).getD [] → b = false ∧ c = false))) := by
    intro i j hij hj
    obtain ⟨r', h1, h2⟩ := pairsOf_spec _ _ hd j (by simpa using hj)
    obtain ⟨x, y, h3, h4, h5⟩ := pairsAt_spec _ _ h1 i (by simpa using hij)
    refine ⟨x, y, h3, h4, ?_⟩
    rcases h5 with h5 | ⟨h5, h6⟩
    · exact .inl (hcl j i h5)
    · exact .inr ⟨h5, fun hn => hk (i, j) (h2 _ (h6 hn))⟩
  intro fuel
  induction fuel with
  | zero =>
    intro listed a w hsz hclosed hun hun2 hg
    have hall : ∀ j, j < ops.size → listed.getD j false = true := by
      intro j hj
      have h0 : (List.range ops.size).filter (fun i => !listed.getD i true) = [] := List.length_eq_zero_iff.1 (Nat.le_zero.1 hun)
      have := List.filter_eq_nil_iff.1 h0 j (by simpa using hj)
      simp at this
      simpa [hsz, hj] using this
    have hnh : ∀ (n : Nat) (r : Rec), rs[n]? = some r → r.hole = false := fun n r hr => by
      cases e : r.hole
      · rfl
      · have hn := (List.getElem?_eq_some_iff.1 hr).1
        have := hun2 n r hr e
        rw [hall n (by omega)] at this; cases this
    refine ⟨?_, hQ hnh _ _ ?_⟩
    · unfold Region.ready
      rw [List.filter_eq_nil_iff]
      intro j hj
      have := hall j (by simpa using hj)
      have hj' : j < listed.size := by rw [hsz]; simpa using hj
      simp [hj'] at this ⊢
      intro h; rw [this] at h; cases h
    · rw [hc.all _ 0 (fun j _ hj => hall j (by omega))] at hg
      exact hg
  | succ fuel ih =>
    intro listed a w hsz hclosed hun hun2 hg
    refine ⟨fun hready => ?_, fun i hi => ?_⟩
    · -- none is ready: all are done
      have hall : ∀ j, j < ops.size → listed.getD j false = true := by
        intro j
        induction j using Nat.strongRecOn with
        | _ j ihj =>
          intro hj
          by_cases e : listed.getD j false = true
          · exact e
          · exfalso
            have hmem : j ∈ Region.ready .any ops listed := by
              rw [mem_ready]
              have hj' : j < listed.size := by omega
              refine ⟨by simpa [hj'] using e, ops[j], by simp [hj], fun ed he hb => ?_⟩
              have h1 := hedge j ops[j] (by simp [hj]) _ (mem_preOf he hb)
              exact ihj ed.on (by omega) (by omega)
            rw [hready] at hmem; cases hmem
      have := hg
      rw [hc.all _ 0 (fun j _ hj => hall j (by omega))] at this
      refine hQ (fun n r hr => ?_) _ _ this
      cases e : r.hole
      · rfl
      · have hn := (List.getElem?_eq_some_iff.1 hr).1
        have h9 := hun2 n r hr e
        rw [hall n (by omega)] at h9; cases h9
    · obtain ⟨hiu, o, ho, hpred⟩ := mem_ready.1 hi
      have hin : i < ops.size := (Array.getElem?_eq_some_iff.1 ho).1
      have hil : i < listed.size := by omega
      have hXi : listed.getD i false = false := by simpa [hil] using hiu
      obtain ⟨mk, g, hm1, hm2, hm3⟩ := hget i o (by simpa using ho)
      have hir : i < rs.length := by omega
      have hik : i < ks.length := by omega
      have hr : rs[i]? = some rs[i] := by simp [hir]
      have hkk : ks[i]? = some ks[i] := by simp [hik]
      generalize rs[i] = r at hr
      generalize ks[i] = kk at hkk
      have node := hc.at i 0 _ _ _ hm3 hr hkk
      simp only [Nat.zero_add] at node
      -- who must go ahead of i has been done; who must go behind has not
      have hpreX : ∀ p ∈ (pl[i]?).getD [], listed.getD p false = true := fun p hp => by
        rw [hpre i o ho] at hp
        obtain ⟨e, he, hb, rfl⟩ := of_mem_preOf hp
        exact hpred e he hb
      have hclosed' : ∀ j, listed.getD j false = true → ∀ p ∈ (pl[j]?).getD [], listed.getD p false = true := fun j hj p hp => by
        cases e : ops[j]? with
        | none =>
          have : pl[j]? = none := by simp [pl, e]
          rw [this] at hp; simp at hp
        | some oj => rw [hpre j oj e] at hp; exact hclosed j hj oj e p hp
      have ahead : ∀ n, Prec (fun j => (pl[j]?).getD []) i n → listed.getD n false = true := fun n hp => hp.closed hclosed' hpreX
      have behind : ∀ n, Prec (fun j => (pl[j]?).getD []) n i → listed.getD n false = true → False := fun n hp hn => by
        have := hp.closed hclosed' (hclosed' n hn)
        rw [hXi] at this; cases this
      -- the keys that one looks at, or writes
      have ksOf : ∀ (n : Nat) (m : MOp) (k : Nat) (c : Bool), ml[n]? = some m → (k, c) ∈ (ks[n]?).getD [] → hasK m.op = true := by
        intro n m k c hm hk
        have hn : n < ks.length := by
          rcases Nat.lt_or_ge n ml.length with h | h
          · omega
          · rw [List.getElem?_eq_none h] at hm; cases hm
        have hn' : n < rs.length := by omega
        simp only [List.getElem?_eq_getElem hn, Option.getD_some] at hk
        have := hc.at n 0 m rs[n] ks[n] hm (by simp [hn']) (by simp [hn])
        cases e : hasK m.op
        · rcases this with ⟨_, _, _, h1⟩ | ⟨h1, _, h2, h3⟩ | ⟨h1, _⟩ | ⟨h1, _⟩
          · rw [h1.has e] at hk; cases hk
          · have := hskip n m rs[n] ks[n] hm (by simp [hn']) (by simp [hn]) h1
            rw [this] at hk; cases hk
          · rw [h1] at hk; cases hk
          · rw [h1] at hk; cases hk
        · rfl
      have wkeys : ∀ (n : Nat) (m : MOp) (r : Rec) (k : Nat) (b : Blk), ml[n]? = some m → rs[n]? = some r → wlook k r.out.ws = some b → (k, true) ∈ (ks[n]?).getD [] := by
        intro n m r k b hm hr hu
        have hn : n < ks.length := by
          rcases Nat.lt_or_ge n ml.length with h | h
          · omega
          · rw [List.getElem?_eq_none h] at hm; cases hm
        simp only [List.getElem?_eq_getElem hn, Option.getD_some]
        have := hc.at n 0 m r ks[n] hm hr (by simp [hn])
        rcases this with ⟨_, _, _, h1⟩ | ⟨_, _, _, h1⟩ | ⟨_, _, _, _, h1, _⟩ | ⟨_, _, h1⟩
        · exact h1.ws _ (wlook_mem hu)
        · rw [h1] at hu; cases hu
        · rw [h1] at hu; cases hu
        · rw [h1] at hu; cases hu
      -- what is done of what conflicts with i is what stands ahead of it
      have dfT : ∀ (n : Nat) (m : MOp) (t : Nat), ml[n]? = some m → (listed.getD n false ≠ decide (n < i)) → t ∈ rdT ⟨o.dst, mk, g⟩ → m.d ≠ some t := by
        intro n m t hm hne ht hd
        have hn : n < ml.length := by
          rcases Nat.lt_or_ge n ml.length with h | h
          · exact h
          · rw [List.getElem?_eq_none h] at hm; cases hm
        rcases Nat.lt_trichotomy n i with hlt | rfl | hgt
        · have hX : listed.getD n false = false := by
            cases e : listed.getD n false
            · rfl
            · rw [e] at hne; simp [hlt] at hne
          obtain ⟨x, y, h1, h2, h3⟩ := conf n i hlt (by omega)
          rw [hm] at h1; cases h1
          rw [hm3] at h2; cases h2
          rcases h3 with h3 | ⟨h3, _⟩
          · rw [ahead n h3] at hX; cases hX
          · simp [apartT, hd] at h3
            exact absurd ht h3.1.1
        · rw [hXi] at hne; simp at hne
        · have hX : listed.getD n false = true := by
            cases e : listed.getD n false
            · rw [e] at hne; simp at hne; omega
            · rfl
          obtain ⟨x, y, h1, h2, h3⟩ := conf i n hgt hn
          rw [hm] at h2; cases h2
          rw [hm3] at h1; cases h1
          rcases h3 with h3 | ⟨h3, _⟩
          · exact behind n h3 hX
          · simp only [apartT, hd, Bool.and_eq_true] at h3
            have := h3.2
            simp at this
            exact absurd ht this
      have mlOf : ∀ (n : Nat) (r' : Rec), rs[n]? = some r' → ∃ m', ml[n]? = some m' := by
        intro n r' hr'
        have hn : n < ml.length := by
          rw [← hrs]
          rcases Nat.lt_or_ge n rs.length with h | h
          · exact h
          · rw [List.getElem?_eq_none h] at hr'; cases hr'
        exact ⟨ml[n], by simp [hn]⟩
      have dfK : ∀ (n : Nat) (r' : Rec) (k : Nat) (c : Bool), rs[n]? = some r' → (listed.getD n false ≠ decide (n < i)) → (k, c) ∈ kk → wlook k r'.out.ws = none := by
        intro n r' k c hr' hne hkk'
        cases hu : wlook k r'.out.ws with
        | none => rfl
        | some b =>
        exfalso
        obtain ⟨m', hm'⟩ := mlOf n r' hr'
        have w1 := wkeys n m' r' k b hm' hr' hu
        have w3 := ksOf n m' k true hm' w1
        have w5 : (ks[i]?).getD [] = kk := by rw [hkk]; rfl
        have w4 : hasK mk = true := ksOf i _ k c hm3 (by rw [w5]; exact hkk')
        rcases Nat.lt_trichotomy n i with hlt | rfl | hgt
        · have hX : listed.getD n false = false := by
            cases e : listed.getD n false
            · rfl
            · rw [e] at hne; simp [hlt] at hne
          obtain ⟨x, y, h1, h2, h3⟩ := conf n i hlt (by omega)
          rw [hm'] at h1; cases h1
          rw [hm3] at h2; cases h2
          rcases h3 with h3 | ⟨_, h3⟩
          · rw [ahead n h3] at hX; cases hX
          · have := (h3 (by simp only [needPair, w3, w4]; rfl) k true c w1 (by rw [w5]; exact hkk')).1
            cases this
        · rw [hXi] at hne; simp at hne
        · have hX : listed.getD n false = true := by
            cases e : listed.getD n false
            · rw [e] at hne; simp at hne; omega
            · rfl
          have hn : n < ml.length := by
            rcases Nat.lt_or_ge n ml.length with h | h
            · exact h
            · rw [List.getElem?_eq_none h] at hm'; cases hm'
          obtain ⟨x, y, h1, h2, h3⟩ := conf i n hgt hn
          rw [hm'] at h2; cases h2
          rw [hm3] at h1; cases h1
          rcases h3 with h3 | ⟨_, h3⟩
          · exact behind n h3 hX
          · have := (h3 (by simp only [needPair, w3, w4]; rfl) k c true (by rw [w5]; exact hkk') w1).2
            cases this
      -- behind i none that has been done writes what i writes
      have lastT : ∀ (n : Nat) (m' : MOp) (t : Nat), i < n → ml[n]? = some m' → listed.getD n false = true → o.dst = some t → m'.d ≠ some t := by
        intro n m' t hgt hm' hX ht hd
        have hn : n < ml.length := by
          rcases Nat.lt_or_ge n ml.length with h | h
          · exact h
          · rw [List.getElem?_eq_none h] at hm'; cases hm'
        obtain ⟨x, y, h1, h2, h3⟩ := conf i n hgt hn
        rw [hm'] at h2; cases h2
        rw [hm3] at h1; cases h1
        rcases h3 with h3 | ⟨h3, _⟩
        · exact behind n h3 hX
        · simp [apartT, ht, hd] at h3
      have hsig : ∀ t ∈ rdT ⟨o.dst, mk, g⟩, (aft (fun j => listed.getD j false) 0 ml rs st0).tm[t]? = (aft (fun j => decide (j < i)) 0 ml rs st0).tm[t]? := fun t ht =>
        aft_tm _ _ t ml rs 0 st0 st0 rfl rfl fun n m hm hne => dfT n m t hm (by simpa using hne) ht
      -- behind it
      have fin : r.hole = false → ∀ a' w', Good Γ B (r.on ⟨o.dst, mk, g⟩ (aft (fun j => listed.getD j false) 0 ml rs st0)) a' w' → wpAny P .any ops Q fuel (listed.setIfInBounds i true) a' w' := by
        intro hnh a' w' hg'
        have hX' : ∀ n, (listed.setIfInBounds i true).getD n false = if n = i then true else listed.getD n false := by
          intro n
          by_cases e : n = i
          · subst e; simp [hil]
          · rw [if_neg e, getD_set_ne false (Ne.symm e)]
        refine ih _ _ _ (by simpa using hsz) ?_ (by have := unl_set hsz hin hiu; omega) (fun n r' hr' hh => ?_) (good_congr hg' ?_ ?_)
        rotate_left
        · rw [hX']
          by_cases e : n = i
          · subst e; rw [hr] at hr'; cases hr'; rw [hnh] at hh; cases hh
          · rw [if_neg e]; exact hun2 n r' hr' hh
        rotate_left 2
        · intro j hj oj hoj p hp
          rw [hX'] at hj ⊢
          by_cases e : p = i
          · simp [e]
          · rw [if_neg e]
            by_cases e2 : j = i
            · subst e2
              rw [ho] at hoj; cases hoj
              obtain ⟨ed, he, hb, rfl⟩ := of_mem_preOf hp
              exact hpred ed he hb
            · rw [if_neg e2] at hj
              exact hclosed j hj oj hoj p hp
        · apply List.ext_getElem?
          intro t
          rw [on_tm]
          by_cases e : o.dst = some t ∧ t < (aft (fun j => listed.getD j false) 0 ml rs st0).tm.length
          · rw [if_pos e]
            refine aft_tm_last _ t i ml rs 0 st0 _ r hm3 hr (by simp [hX']) e.1 (by rw [aft_len] at e; exact e.2) fun n' m' hlt hm' hx' => ?_
            simp only [Nat.zero_add, hX'] at hx'
            rw [if_neg (by omega)] at hx'
            exact lastT n' m' t hlt hm' hx' e.1
          · rw [if_neg e]
            by_cases ht : t < st0.tm.length
            · refine aft_tm _ _ t ml rs 0 st0 st0 rfl rfl fun n m hm hne => ?_
              simp only [Nat.zero_add, hX'] at hne
              by_cases e2 : n = i
              · subst e2
                rw [hm3] at hm; cases hm
                intro hd'
                exact e ⟨hd', by rw [aft_len]; exact ht⟩
              · rw [if_neg e2] at hne; exact absurd rfl hne
            · rw [List.getElem?_eq_none (by rw [aft_len]; omega), List.getElem?_eq_none (by rw [aft_len]; omega)]
        · intro k
          rw [on_own]
          cases hp : wlook k r.out.ws with
          | some bk =>
            refine aft_own_last _ k bk i ml rs 0 st0 _ r hm3 hr (by simp [hX']) hp fun n' r' hlt hr' hx' => ?_
            simp only [Nat.zero_add, hX'] at hx'
            rw [if_neg (by omega)] at hx'
            cases hu : wlook k r'.out.ws with
            | none => rfl
            | some b' =>
            exfalso
            have v1 := wkeys i _ r k bk hm3 hr hp
            have v3 := ksOf i _ k true hm3 v1
            obtain ⟨m', hm'⟩ := mlOf n' r' hr'
            have w1 := wkeys n' m' r' k b' hm' hr' hu
            have w3 := ksOf n' m' k true hm' w1
            have hn : n' < ml.length := by
              rcases Nat.lt_or_ge n' ml.length with h | h
              · exact h
              · rw [List.getElem?_eq_none h] at hm'; cases hm'
            obtain ⟨x, y, h1, h2, h3⟩ := conf i n' hlt hn
            rw [hm'] at h2; cases h2
            rw [hm3] at h1; cases h1
            rcases h3 with h3 | ⟨_, h3⟩
            · exact behind n' h3 hx'
            · have := (h3 (by simp only [needPair, w3, v3]; rfl) k true true v1 w1).1
              cases this
          | none =>
            refine aft_own _ _ k ml rs 0 st0 st0 rfl fun n r' hr' hne => ?_
            simp only [Nat.zero_add, hX'] at hne
            by_cases e2 : n = i
            · subst e2
              rw [hr] at hr'; cases hr'
              exact hp
            · rw [if_neg e2] at hne; exact absurd rfl hne
      unfold wpOp
      simp only [ho]
      have same : Same0 mk (aft (fun j => decide (j < i)) 0 ml rs st0).tm (aft (fun j => listed.getD j false) 0 ml rs st0).tm :=
        ⟨by rw [aft_len, aft_len], fun x hx t ht => by
          subst ht
          exact hsig t (by
            simp only [rdT, List.mem_append]
            exact .inr (List.mem_flatMap.2 ⟨_, hx, by simp [opdT]⟩))⟩
      rcases node with ⟨_, hh, n1, n2⟩ | ⟨_, hh, ⟨t, b, n1, n2⟩, n3⟩ | ⟨_, hh, n1, v, n2, n3⟩ | ⟨_, n1, n2⟩
      · have hw : Region.wanted o (yielded ops a.tmps) = true := by
          rcases lowG_spec hm2 with ⟨rfl, hgd⟩ | ⟨j, t, b, rfl, hgd, hdst⟩
          · simp [Region.wanted, hgd]
          · rcases n1 with n1 | ⟨t', b', n1, n4⟩
            · cases n1
            · cases n1
              have h5 := hsig t (by simp [rdT])
              rw [n4] at h5
              have := (guard_slot hg hdst h5).1 b rfl
              simp [Region.wanted, hgd, this]
        rw [if_pos hw]
        refine .inl (step_good hΓ hm1 (dr := true) (K := fun st _ => st = r.on ⟨o.dst, mk, g⟩ (aft (fun j => listed.getD j false) 0 ml rs st0)) ?_ hg fun st' _ a' w' hK hg' => fin hh a' w' (hK ▸ hg'))
        refine n2.run _ _ ⟨by rw [aft_len, aft_len], same.2, fun k c hk => ?_⟩ _ rfl
        exact aft_own _ _ k ml rs 0 st0 st0 rfl fun n r' hr' hne => dfK n r' k c hr' (by simpa using hne) hk
      · have hw : Region.wanted o (yielded ops a.tmps) = false := by
          rcases lowG_spec hm2 with ⟨rfl, hgd⟩ | ⟨j, t', b', rfl, hgd, hdst⟩
          · cases n1
          · cases n1
            have h5 := hsig t (by simp [rdT])
            rcases n2 with n2 | ⟨l, n2⟩
            · rw [n2] at h5
              have := (guard_slot hg hdst h5).1 _ rfl
              simp [Region.wanted, hgd, this]
            · rw [n2] at h5
              have := (guard_slot hg hdst h5).2 l rfl
              simp [Region.wanted, hgd, this]
        rw [if_neg (by simp [hw])]
        refine fin hh _ _ ?_
        have := good_put hg o.dst
        rw [show r.on ⟨o.dst, mk, g⟩ (aft (fun j => listed.getD j false) 0 ml rs st0) = (aft (fun j => listed.getD j false) 0 ml rs st0).put o.dst (.t .undef) by
          simp only [Rec.on, n3, Out.on, wsOn]]
        exact this
      · have hw : Region.wanted o (yielded ops a.tmps) = true := by
          rcases lowG_spec hm2 with ⟨rfl, hgd⟩ | ⟨j, t, b, rfl, hgd, hdst⟩
          · simp [Region.wanted, hgd]
          · cases n1
        rw [if_pos hw]
        obtain ⟨S0, ρ0, hr0⟩ := hg
        refine .inl (stepP_sound hΓ (K := fun e st => e = .normal ∧ st = r.on ⟨o.dst, mk, g⟩ (aft (fun j => listed.getD j false) 0 ml rs st0)) (fun st' a' w' hK hg' => fin hh a' w' (hK.2 ▸ hg')) (fun y st' a' w' S' ρ' u hK => by cases hK.1)
          (tm := (aft (fun j => listed.getD j false) 0 ml rs st0).tm) (own := (aft (fun j => listed.getD j false) 0 ml rs st0).own) hr0 hm1 (n3 _ _ same _ ⟨rfl, ?_⟩))
        simp only [Rec.on, n2]
      · rcases hP with hP | ⟨p, y, ⟨⟨mp, rp, hp1, hp2, hp3, hp4, hp5⟩, hp6⟩, hp7⟩
        · rw [hP i r hr] at n1; cases n1
        · rcases hp6 i _ r hm3 hr n1 with e | ⟨t, ht, n', m', r', hlt, hm', hr', hh', hd'⟩
          · subst e
            rw [hm3] at hp1; cases hp1
            have hw : Region.wanted o (yielded ops a.tmps) = true := by
              rcases lowG_spec hm2 with ⟨rfl, hgd⟩ | ⟨j, t, b, rfl, hgd, hdst⟩
              · simp [Region.wanted, hgd]
              · cases hp4
            rw [if_pos hw]
            obtain ⟨S0, ρ0, hr0⟩ := hg
            have h5 := hp5 0
            simp only [Nat.zero_add] at h5
            refine .inl (stepP_sound hΓ (K := fun e st => e = .pan y ∧ st = aft (fun j => listed.getD j false) 0 ml rs st0) (fun st' a' w' hK hg' => by cases hK.1) (fun y' st' a' w' S' ρ' u hK hrel hu => ?_)
              (tm := (aft (fun j => listed.getD j false) 0 ml rs st0).tm) (own := (aft (fun j => listed.getD j false) 0 ml rs st0).own) hr0 hm1 (h5 _ _ same _ ⟨rfl, rfl⟩))
            obtain ⟨e1, e2⟩ := hK
            cases e1; subst e2
            exact hp7 _ S' ρ' a' w' u hrel hu
          · exfalso
            obtain ⟨x, y', k1, k2, k3⟩ := conf n' i hlt (by omega)
            rw [hm'] at k1; cases k1
            rw [hm3] at k2; cases k2
            rcases k3 with k3 | ⟨k3, _⟩
            · have := ahead n' k3
              rw [hun2 n' r' hr' hh'] at this; cases this
            · simp [apartT, hd'] at k3
              exact absurd ht k3.1.1
theorem quietO_spec : ∀ {l : Log}, quietO l = true → ∀ k c, (k, c) ∈ l → c = false
  | [], _, k, c, h => by cases h
  | p :: r, h, k, c, hm => by
    unfold quietO at h
    split at h
    · cases h
    · rename_i e
      rcases List.mem_cons.1 hm with rfl | hm
      · exact e
      · exact quietO_spec h k c hm
theorem quietL_spec : ∀ {ls : List Log}, quietL ls = true → ∀ (n : Nat) k c, (k, c) ∈ (ls[n]?).getD [] → c = false
  | [], _, n, k, c, h => by simp at h
  | l :: r, h, n, k, c, hm => by
    unfold quietL at h
    split at h
    · rename_i e
      cases n with
      | zero => simp at hm; exact quietO_spec e k c hm
      | succ n => exact quietL_spec h n k c (by simpa using hm)
    · cases h
theorem deadK_elim : ∀ {ms : List MOp} {tm : List V} {K : List V → Prop}, deadK ms tm K → ∃ tm', K tm' ∧ tm'.length = tm.length ∧ ∀ t : Nat, tm'[t]? = some V.dead ∨ (tm'[t]? = tm[t]? ∧ ∀ (n : Nat) (m : MOp), ms[n]? = some m → m.d ≠ some t)
  | [], tm, K, h => ⟨tm, h, rfl, fun t => .inr ⟨rfl, fun n m hm => by simp at hm⟩⟩
  | m :: r, tm, K, h => by
    unfold deadK at h
    split at h
    · rename_i hd
      obtain ⟨tm', h1, h2, h3⟩ := deadK_elim h
      refine ⟨tm', h1, h2, fun t => (h3 t).imp id fun ⟨a, b⟩ => ⟨a, fun n m' hm => ?_⟩⟩
      cases n with
      | zero => simp at hm; subst hm; rw [hd]; intro e; cases e
      | succ n => exact b n m' (by simpa using hm)
    · rename_i i hd
      obtain ⟨hi, h⟩ := setK_elim h
      obtain ⟨tm', h1, h2, h3⟩ := deadK_elim h
      refine ⟨tm', h1, by rw [h2, List.length_set], fun t => ?_⟩
      rcases h3 t with a | ⟨a, b⟩
      · exact .inl a
      · by_cases e : i = t
        · subst e
          left; rw [a, List.getElem?_set_self hi]
        · right
          refine ⟨by rw [a, List.getElem?_set_ne e], fun n m' hm => ?_⟩
          cases n with
          | zero => simp at hm; subst hm; rw [hd]; intro e2; cases e2; exact e rfl
          | succ n => exact b n m' (by simpa using hm)
theorem fall_rel {ml : List MOp} {rs : List Rec} {ks : List Log} {tm tm' : List V} {own : Own} {stF : St} {X : Nat → Bool} {S : Cells} {ρ : Infos} {a : Act} {w : World} (hc : Chain Γ ml rs ks ⟨tm, own⟩ stF) (hq : quietL ks = true) (hl : tm'.length = tm.length)
    (ht : ∀ t : Nat, tm'[t]? = some V.dead ∨ (tm'[t]? = tm[t]? ∧ ∀ (n : Nat) (m : MOp), ml[n]? = some m → m.d ≠ some t)) (h : Rel Γ B S ρ (aft X 0 ml rs ⟨tm, own⟩) a w) : Rel Γ B S ρ ⟨tm', own⟩ a w := by
  obtain ⟨hrs, hks⟩ := hc.lens
  have nw : ∀ (n : Nat) (r : Rec) (k : Nat), rs[n]? = some r → wlook k r.out.ws = none := fun n r k hr => by
    have hn := (List.getElem?_eq_some_iff.1 hr).1
    have hm : ml[n]? = some (ml[n]'(by omega)) := by simp
    have hk : ks[n]? = some (ks[n]'(by omega)) := by simp
    have node := hc.at n 0 _ _ _ hm hr hk
    cases hu : wlook k r.out.ws with
    | none => rfl
    | some b =>
      exfalso
      rcases node with ⟨_, _, _, h1⟩ | ⟨_, _, _, h1⟩ | ⟨_, _, _, _, h1, _⟩ | ⟨_, _, h1⟩
      · have h2 := h1.ws _ (wlook_mem hu)
        have := quietL_spec hq n k true (by rw [hk]; exact h2)
        cases this
      · rw [h1] at hu; cases hu
      · rw [h1] at hu; cases hu
      · rw [h1] at hu; cases hu
  have ho : ∀ k, look k own = look k (aft X 0 ml rs ⟨tm, own⟩).own := fun k => by
    rw [aft_own X (fun _ => false) k ml rs 0 ⟨tm, own⟩ ⟨tm, own⟩ rfl (fun n r hr _ => nw n r k hr), aft_none _ _ _ _ _ (fun _ => rfl)]
  have hle : OwnLe (aft X 0 ml rs ⟨tm, own⟩).own own := fun k b hb => ⟨b, by rw [ho]; exact hb, .refl b⟩
  generalize hs : aft X 0 ml rs ⟨tm, own⟩ = s at h ho hle
  obtain ⟨tm1, own1⟩ := s
  have h2 : Rel Γ B S ρ ⟨tm1, own⟩ a w := by
    refine h.move (C := fun _ _ => False) ?_ (Keep.refl _ w) (fun _ _ h => h.elim) (fun _ _ h => h) (fun _ _ h => .inl h) hle (fun _ _ _ => rfl) fun b o hc => .inl ?_
    · exact h.mem.move (C := fun _ _ => False) (Keep.refl _ w) (fun _ _ h => h.elim) (fun _ _ h => h) h.mem.lt hle (fun _ _ _ => rfl)
        (fun k blk hk => by
          rw [ho] at hk
          exact .inl ⟨hk, fun b o hc => ⟨fun h => h, (h.mem.cl k blk hk b o hc).2⟩⟩)
        (fun k k' b b' hk hk' => h.mem.disj k k' b b' (by rw [← ho]; exact hk) (by rw [← ho]; exact hk'))
    · obtain ⟨k, blk, h1, h2⟩ := hc
      exact ⟨k, blk, by rw [← ho]; exact h1, h2⟩
  have hl1 : tm1.length = tm.length := by
    have := aft_len X ml rs 0 ⟨tm, own⟩
    rw [hs] at this; exact this
  refine { h2 with len := by rw [h2.len]; show tm1.length = tm'.length; rw [hl1, hl], tm := fun i v u hv hu => ?_ }
  rcases ht i with e | ⟨e, e2⟩
  · rw [e] at hv; cases hv; exact .dead u
  · refine h2.tm i v u ?_ hu
    rw [← hv, e]
    have := aft_tm X (fun _ => false) i ml rs 0 ⟨tm, own⟩ ⟨tm, own⟩ rfl rfl (fun n m hm _ => e2 n m hm)
    rw [aft_none (fun _ => false) _ _ _ _ (fun _ => rfl), hs] at this
    exact this
end
end Go.Nx
end
section
set_option linter.unusedVariables false
set_option linter.unusedSimpArgs false
namespace Go.Nx
open Go.RowKit

theorem keepK_elim {m : List Nat} : ∀ {own : Own} {K : Own → Prop}, keepK m own K → ∃ own', K own' ∧ ∀ k, look k own' = if k ∈ m then look k own else none
  | [], K, h => ⟨[], h, fun k => by simp [look]⟩
  | p :: r, K, h => by
    obtain ⟨j, b⟩ := p
    simp only [keepK] at h
    split at h
    · rename_i e
      obtain ⟨own', h1, h2⟩ := keepK_elim h
      refine ⟨own', h1, fun k => ?_⟩
      rw [h2]
      simp only [look]
      by_cases e2 : j = k
      · subst e2; simp [notIn_spec e]
      · simp [e2]
    · rename_i e
      obtain ⟨own', h1, h2⟩ := keepK_elim h
      refine ⟨_, h1, fun k => ?_⟩
      simp only [look]
      by_cases e2 : j = k
      · subst e2; simp [notIn_false e]
      · simp [e2, h2]

section
variable {P : Program} {Γ : Env} {B : Base} {S : Cells} {ρ : Infos} {tm : List V} {own : Own} {a : Act} {w : World}

theorem keep_rel {m roots : List Nat} {K : Own → Prop} (hr : Rel Γ B S ρ ⟨tm, own⟩ a w) (hroots : ∀ k b, look k B.own = some b → k ∈ roots) (h : natK (allIn m roots) (natK (ownClosed m own) (keepK m own K))) :
    ∃ own', K own' ∧ (∀ tm', (∀ (i : Nat) (v : V) (u : Value), tm'[i]? = some v → a.tmps[i]? = some u → RelV S w ρ own v u) → tm'.length = tm.length → (∀ k ∈ vsRefs tm', k ∈ roots) → Rel Γ B S ρ ⟨tm', own'⟩ a w) ∧
      (∀ v u, (∀ k ∈ vRefs v, k ∈ roots) → RelV S w ρ own v u → RelV S w ρ own' v u) := by
  obtain ⟨h1, h⟩ := natK_elim h
  obtain ⟨h2, h⟩ := natK_elim h
  obtain ⟨own', hK, hlook⟩ := keepK_elim h
  have hm := allIn_spec h1
  have hc := ownClosed_spec h2
  have hin : ∀ k ∈ m, look k own' = look k own := fun k hk => by rw [hlook, if_pos hk]
  have hlk : ∀ k b, look k own' = some b → look k own = some b ∧ k ∈ m := fun k b hk => by
    rw [hlook] at hk
    split at hk
    · exact ⟨hk, by assumption⟩
    · cases hk
  refine ⟨own', hK, fun tm' htm hlen href => ?_, fun v u hv hrel => hrel.lookAt fun k hk => hin k (hm k (hv k hk))⟩
  refine ⟨⟨hr.mem.lt, fun k blk hk => ?_, fun k blk hk => hr.mem.cl k blk (hlk k blk hk).1, fun k k' b b' hk hk' => hr.mem.disj k k' b b' (hlk k b hk).1 (hlk k' b' hk').1, hr.mem.gl⟩,
    hr.keep, hr.base, hr.sub, hr.sup, fun b o hcl => ?_, fun k b hk => ?_, hr.rho, hr.prot, ?_, fun i v u hv hu => ?_, hr.defers⟩
  · obtain ⟨g1, g2⟩ := hlk k blk hk
    exact (hr.mem.blk k blk g1).lookAt fun j hj => hin j (hc k blk g1 g2 j hj)
  · obtain ⟨k, blk, g1, g2⟩ := hcl
    exact hr.clB b o ⟨k, blk, (hlk k blk g1).1, g2⟩
  · obtain ⟨b', g1, g2⟩ := hr.le k b hk
    exact ⟨b', by show look k own' = some b'; rw [hin k (hm k (hroots k b hk))]; exact g1, g2⟩
  · show a.tmps.size = tm'.length
    rw [hlen]; exact hr.len
  · exact (htm i v u hv hu).lookAt fun k hk => hin k (hm k (href k (mem_vsRefs (List.mem_of_getElem? hv) hk)))

theorem pushK_elim {K : List Nat → Prop} : ∀ {r m : List Nat}, pushK r m K → ∃ m', K m'
  | [], m, h => ⟨m, h⟩
  | x :: r, m, h => by
    unfold pushK at h
    split at h
    · exact pushK_elim h
    · exact pushK_elim h
theorem reachK_elim {K : List Nat → Prop} : ∀ {own : Own} {m : List Nat}, reachK K own m → ∃ m', K m'
  | [], m, h => ⟨m, h⟩
  | p :: r, m, h => by
    unfold reachK at h
    split at h
    · exact reachK_elim h
    · obtain ⟨m', h'⟩ := pushK_elim h
      exact reachK_elim h'
theorem marksK_elim {own0 : Own} {K : List Nat → Prop} : ∀ {own : Own} {m : List Nat}, marksK own0 K own m → ∃ m', K m'
  | [], m, h => ⟨m, h⟩
  | p :: r, m, h => by
    unfold marksK at h
    obtain ⟨m', h'⟩ := reachK_elim h
    exact marksK_elim h'
theorem gc_rel {roots : List Nat} {K : Own → Prop} (hr : Rel Γ B S ρ ⟨tm, own⟩ a w) (hroots : ∀ k b, look k B.own = some b → k ∈ roots) (h : gcK roots own K) :
    ∃ own', K own' ∧ (∀ tm', (∀ (i : Nat) (v : V) (u : Value), tm'[i]? = some v → a.tmps[i]? = some u → RelV S w ρ own v u) → tm'.length = tm.length → (∀ k ∈ vsRefs tm', k ∈ roots) → Rel Γ B S ρ ⟨tm', own'⟩ a w) ∧
      (∀ v u, (∀ k ∈ vRefs v, k ∈ roots) → RelV S w ρ own v u → RelV S w ρ own' v u) := by
  obtain ⟨m0, h⟩ := pushK_elim h
  obtain ⟨m, h⟩ := marksK_elim h
  exact keep_rel hr hroots h
def ren (k k0 j : Nat) : Nat := if j = k then k0 else j
theorem beq_ne {j k : Nat} (e : j ≠ k) : Nat.beq j k = false := by rw [← Bool.not_eq_true, Nat.beq_eq]; exact e
theorem renV_ptr (k k0 j o : Nat) : renV k k0 (.ptr j o) = .ptr (ren k k0 j) o := by
  by_cases e : j = k
  · subst e; simp [renV, ren, Nat.beq_refl]
  · simp [renV, ren, e, beq_ne e]
theorem renV_eptr (k k0 j o i : Nat) : renV k k0 (.eptr j o i) = .eptr (ren k k0 j) o i := by
  by_cases e : j = k
  · subst e; simp [renV, ren, Nat.beq_refl]
  · simp [renV, ren, e, beq_ne e]
theorem renV_sl (k k0 j o : Nat) (l : Option Nat) : renV k k0 (.sl j o l) = .sl (ren k k0 j) o l := by
  by_cases e : j = k
  · subst e; simp [renV, ren, Nat.beq_refl]
  · simp [renV, ren, e, beq_ne e]
theorem renV_mp (k k0 j : Nat) : renV k k0 (.mp j) = .mp (ren k k0 j) := by
  by_cases e : j = k
  · subst e; simp [renV, ren, Nat.beq_refl]
  · simp [renV, ren, e, beq_ne e]
theorem renOwn_cons (k k0 : Nat) (p : Nat × Blk) (r : Own) : renOwn k k0 (p :: r) = (ren k k0 p.1, renB k k0 p.2) :: renOwn k k0 r := by
  by_cases e : p.1 = k
  · simp [renOwn, ren, e, Nat.beq_refl]
  · simp [renOwn, ren, e, beq_ne e]
theorem renVs_get {k k0 : Nat} : ∀ {l : List V} {i : Nat} {c : V}, (renVs k k0 l)[i]? = some c → ∃ c', l[i]? = some c' ∧ c = renV k k0 c'
  | [], i, c, h => by simp [renVs] at h
  | x :: r, 0, c, h => by simp [renVs] at h; exact ⟨x, rfl, h.symm⟩
  | x :: r, i + 1, c, h => by simp only [renVs, List.getElem?_cons_succ] at h ⊢; exact renVs_get h
theorem renVs_len {k k0 : Nat} : ∀ (l : List V), (renVs k k0 l).length = l.length
  | [] => rfl
  | x :: r => by simp [renVs, renVs_len r]
theorem renEs_get {k k0 : Nat} : ∀ {l : List (T × V)} {i : Nat} {c : T × V}, (renEs k k0 l)[i]? = some c → ∃ c', l[i]? = some c' ∧ c = (c'.1, renV k k0 c'.2)
  | [], i, c, h => by simp [renEs] at h
  | x :: r, 0, c, h => by simp [renEs] at h; exact ⟨x, rfl, h.symm⟩
  | x :: r, i + 1, c, h => by simp only [renEs, List.getElem?_cons_succ] at h ⊢; exact renEs_get h
theorem renEs_len {k k0 : Nat} : ∀ (l : List (T × V)), (renEs k k0 l).length = l.length
  | [] => rfl
  | x :: r => by simp [renEs, renEs_len r]
theorem look_ren {k k0 : Nat} : ∀ {own : Own}, look k0 own = none → ∀ j, j ≠ k0 → look (ren k k0 j) (renOwn k k0 own) = (look j own).map (renB k k0)
  | [], _, j, _ => by simp [look, renOwn]
  | p :: r, h, j, hj => by
    simp only [look] at h
    split at h
    · cases h
    · rename_i e
      simp only [renOwn_cons, look]
      by_cases e2 : p.1 = j
      · subst e2; simp
      · have : ren k k0 p.1 ≠ ren k k0 j := by
          unfold ren
          by_cases e3 : p.1 = k
          · rw [if_pos e3, if_neg (by omega)]; omega
          · rw [if_neg e3]
            by_cases e4 : j = k
            · rw [if_pos e4]; exact e
            · rw [if_neg e4]; exact e2
        rw [if_neg this, if_neg e2]
        exact look_ren h j hj
theorem look_renOwn {k k0 : Nat} {own : Own} {j : Nat} {b : Blk} (h0 : look k0 own = none) (h : look j (renOwn k k0 own) = some b) : ∃ j' b', look j' own = some b' ∧ j = ren k k0 j' ∧ b = renB k k0 b' := by
  induction own with
  | nil => simp [renOwn, look] at h
  | cons p r ih =>
    simp only [look] at h0
    split at h0
    · cases h0
    · rename_i e
      simp only [renOwn_cons, look] at h
      split at h
      · rename_i e2
        cases h
        exact ⟨p.1, p.2, by simp [look], e2.symm, rfl⟩
      · rename_i e2
        obtain ⟨j', b', g1, g2, g3⟩ := ih h0 h
        refine ⟨j', b', ?_, g2, g3⟩
        simp only [look]
        rw [if_neg]
        · exact g1
        · intro e3; subst e3; exact e2 g2.symm
theorem claim_ren (i : Info) (k k0 : Nat) (b : Blk) : claim i (renB k k0 b) = claim i b := by cases b <;> rfl
theorem ren_inj {k k0 i j : Nat} (hi : i ≠ k0) (hj : j ≠ k0) (h : ren k k0 i = ren k k0 j) : i = j := by
  unfold ren at h
  split at h <;> split at h <;> omega
theorem RelV.ren {ρ' : Infos} {k k0 : Nat} (h0 : look k0 own = none) (hρ : ∀ j b, look j own = some b → ρ' (ren k k0 j) = ρ j) {v : V} {u : Value} (h : RelV S w ρ own v u) : RelV S w ρ' (renOwn k k0 own) (renV k k0 v) u := by
  have ne : ∀ {j b}, look j own = some b → j ≠ k0 := fun {j b} hj e => by subst e; rw [h0] at hj; cases hj
  have lk : ∀ {j b}, look j own = some b → look (Nx.ren k k0 j) (renOwn k k0 own) = some (renB k k0 b) := fun {j b} hj => by
    rw [look_ren h0 j (ne hj), hj]; rfl
  induction h with
  | t x v h => exact .t x v h
  | dead v => exact .dead v
  | ptr j off b h => rw [renV_ptr]; rw [← hρ j b h]; exact .ptr _ off _ (lk h)
  | eptr j i l b h ad ha =>
    rw [renV_eptr]
    refine .eptr _ i l _ (lk h) ad fun sz ts m hb => ?_
    rw [hρ j b h]
    cases b <;> simp [renB] at hb
    obtain ⟨rfl, rfl, rfl⟩ := hb
    exact ha _ _ _ rfl
  | sl j off len b h v hv =>
    rw [renV_sl]
    refine .sl _ off len _ (lk h) v ?_
    rw [hρ j b h]
    cases b <;> exact hv
  | cl sz xs a h => exact .cl sz xs a h
  | ce a => exact .ce a
  | mp j b h => rw [renV_mp]; rw [← hρ j b h]; exact .mp _ _ (lk h)
  | fn f xs ys a b hn hm h h' ih ih' =>
    simp only [renV]
    refine .fn f _ _ a b (by rw [renVs_len]; exact hn) (by rw [renVs_len]; exact hm) (fun i c v hc hv => ?_) fun i c v hc hv => ?_
    · obtain ⟨c', hc', rfl⟩ := renVs_get hc; exact ih i c' v hc' hv
    · obtain ⟨c', hc', rfl⟩ := renVs_get hc; exact ih' i c' v hc' hv
  | agg cs arr hn h ih =>
    simp only [renV]
    refine .agg _ arr (by rw [renVs_len]; exact hn) fun i c v hc hv => ?_
    obtain ⟨c', hc', rfl⟩ := renVs_get hc; exact ih i c' v hc' hv
  | tup cs arr hn h ih =>
    simp only [renV]
    refine .tup _ arr (by rw [renVs_len]; exact hn) fun i c v hc hv => ?_
    obtain ⟨c', hc', rfl⟩ := renVs_get hc; exact ih i c' v hc' hv
theorem RelB.ren {ρ' : Infos} {k k0 j : Nat} {blk : Blk} (h0 : look k0 own = none) (hρ : ∀ j b, look j own = some b → ρ' (ren k k0 j) = ρ j) (hj : look j own = some blk) (h : RelB S w ρ own j blk) :
    RelB S w ρ' (renOwn k k0 own) (Nx.ren k k0 j) (renB k k0 blk) := by
  have e := hρ j blk hj
  cases blk with
  | cells cs =>
    obtain ⟨arr, t, h1, h2, h3⟩ := h
    refine ⟨arr, t, by rw [e]; exact h1, by rw [renVs_len]; exact h2, fun i c v hc hv => ?_⟩
    obtain ⟨c', hc', rfl⟩ := renVs_get hc
    exact (h3 i c' v hc' hv).ren h0 hρ
  | map nr es =>
    obtain ⟨h00, arr, n, h1, h2, h3⟩ := h
    cases nr with
    | true =>
      refine ⟨h00, arr, n, by rw [e]; exact h1, h2, fun i c m hc hm => ?_⟩
      obtain ⟨a, z, rfl⟩ := miB_ent (h00 rfl) hc
      exact ⟨(h3 i _ m hc hm).1, (h3 i _ m hc hm).2.ren h0 hρ⟩
    | false =>
      refine ⟨(fun e => (by cases e)), arr, n, by rw [e]; exact h1, by rw [renEs_len]; exact h2, fun i c m hc hm => ?_⟩
      obtain ⟨c', hc', rfl⟩ := renEs_get hc
      exact ⟨(h3 i c' m hc' hm).1, (h3 i c' m hc' hm).2.ren h0 hρ⟩
  | frz cs => show ∀ (i : Nat) (c : T), _ → _; rw [e]; exact h
  | lst sz ts m =>
    match m, h with
    | 0, h => simpa only [renB, RelB, e] using h
    | 1, h => simpa only [renB, RelB, e] using h
    | m + 2, h => simpa only [renB, RelB, e] using h
  | gone => trivial
theorem Ble.ren {b b' : Blk} (k k0 : Nat) (h : Ble b b') : Ble b (renB k k0 b') := by
  cases b' <;> first | exact h | skip
  all_goals cases b <;> simp [Ble, renB] at h ⊢

theorem ren_rel {k k0 : Nat} (hr : Rel Γ B S ρ ⟨tm, own⟩ a w) (hp : k ∉ Γ.prot) (h0 : look k0 own = none) : ∃ ρ', Rel Γ B S ρ' ⟨renVs k k0 tm, renOwn k k0 own⟩ a w := by
  have ne : ∀ {j b}, look j own = some b → j ≠ k0 := fun {j b} hj e => by subst e; rw [h0] at hj; cases hj
  obtain ⟨ρ', hρ, hρ0⟩ : ∃ ρ' : Infos, (∀ j b, look j own = some b → ρ' (ren k k0 j) = ρ j) ∧ ∀ j, j ≠ k0 → ρ' j = ρ j := by
    refine ⟨fun i => if i = k0 then ρ k else ρ i, fun j b hj => ?_, fun j hj => if_neg hj⟩
    have := ne hj
    unfold ren
    by_cases e : j = k
    · subst e; simp
    · simp [e, this]
  have bk : ∀ {j b}, look j B.own = some b → j ≠ k ∧ j ≠ k0 := fun {j b} hj => by
    refine ⟨fun e => ?_, ?_⟩
    · subst e; exact hp (hr.prot _ _ hj)
    · obtain ⟨b', hb', _⟩ := hr.le j b hj
      exact ne hb'
  refine ⟨ρ', ⟨hr.mem.lt, fun j blk hj => ?_, fun j blk hj b o hc => ?_, fun j j' x x' hj hj' hne b o hc hc' => ?_, hr.mem.gl⟩, hr.keep, hr.base, hr.sub, hr.sup, fun b o hc => ?_, fun j b hj => ?_, fun j b hj => ?_, hr.prot, ?_, fun i v u hv hu => ?_, hr.defers⟩
  · obtain ⟨j', b', g1, rfl, rfl⟩ := look_renOwn h0 hj
    exact (hr.mem.blk j' b' g1).ren h0 hρ g1
  · obtain ⟨j', b', g1, rfl, rfl⟩ := look_renOwn h0 hj
    rw [claim_ren, hρ j' b' g1] at hc
    exact hr.mem.cl j' b' g1 b o hc
  · obtain ⟨i, y, g1, rfl, rfl⟩ := look_renOwn h0 hj
    obtain ⟨i', y', g1', rfl, rfl⟩ := look_renOwn h0 hj'
    rw [claim_ren, hρ i y g1] at hc
    rw [claim_ren, hρ i' y' g1'] at hc'
    exact hr.mem.disj i i' y y' g1 g1' (fun e => hne (by rw [e])) b o hc hc'
  · obtain ⟨j, blk, hj, hc⟩ := hc
    obtain ⟨j', b', g1, rfl, rfl⟩ := look_renOwn h0 hj
    rw [claim_ren, hρ j' b' g1] at hc
    exact hr.clB b o ⟨j', b', g1, hc⟩
  · obtain ⟨b', g1, g2⟩ := hr.le j b hj
    obtain ⟨e1, e2⟩ := bk hj
    have := look_ren (k := k) h0 j e2
    unfold ren at this
    rw [if_neg e1, g1] at this
    exact ⟨_, this, g2.ren k k0⟩
  · obtain ⟨e1, e2⟩ := bk hj
    rw [hρ0 j e2]; exact hr.rho j b hj
  · show a.tmps.size = (renVs k k0 tm).length
    rw [renVs_len]; exact hr.len
  · obtain ⟨v', hv', rfl⟩ := renVs_get hv
    exact (hr.tm i v' u hv' hu).ren h0 hρ

theorem Rel.slot (hr : Rel Γ B S ρ ⟨tm, own⟩ a w) {i : Nat} {v : V} (h : ∀ u, a.tmps[i]? = some u → RelV S w ρ own v u) : Rel Γ B S ρ ⟨tm.set i v, own⟩ a w := by
  refine ⟨hr.mem, hr.keep, hr.base, hr.sub, hr.sup, hr.clB, hr.le, hr.rho, hr.prot, by simpa using hr.len, fun j x u hv hu => ?_, hr.defers⟩
  by_cases e : i = j
  · subst e
    have hlt : i < tm.length := by
      rcases Nat.lt_or_ge i tm.length with h' | h'
      · exact h'
      · rw [List.getElem?_eq_none (by simpa using h')] at hv; cases hv
    rw [List.getElem?_set_self hlt] at hv
    cases hv; exact h u hu
  · rw [List.getElem?_set_ne e] at hv
    exact hr.tm j x u hv hu
theorem nz1_good {z : Nz} {st : St} {K : St → Prop} (h : nz1K Γ.prot z st K) (hg : Good Γ B st a w) : ∃ st', K st' ∧ Good Γ B st' a w := by
  obtain ⟨S, ρ, hr⟩ := hg
  obtain ⟨tm, own⟩ := st
  cases z with
  | kill i =>
    obtain ⟨h1, h2⟩ := setK_elim h
    exact ⟨_, h2, S, ρ, hr.slot fun u _ => .dead u⟩
  | gc =>
    obtain ⟨own', hK, h1, _⟩ := gc_rel hr (fun k b hk => List.mem_append.2 (.inr (hr.prot k b hk))) h
    exact ⟨_, hK, S, ρ, h1 tm hr.tm rfl fun k hk => List.mem_append.2 (.inl hk)⟩
  | ren k k0 =>
    obtain ⟨h1, h⟩ := natK_elim h
    obtain ⟨h2, h⟩ := freshK_elim h
    obtain ⟨ρ', hr'⟩ := ren_rel hr (notIn_spec h1) h2
    exact ⟨_, h, S, ρ', hr'⟩
  | keep m =>
    obtain ⟨own', hK, h1, _⟩ := keep_rel hr (fun k b hk => List.mem_append.2 (.inr (hr.prot k b hk))) h
    exact ⟨_, hK, S, ρ, h1 tm hr.tm rfl fun k hk => List.mem_append.2 (.inl hk)⟩
  | set k =>
    obtain ⟨b, hb, h⟩ := lkupK_elim h
    split at h
    · obtain ⟨S', c1⟩ := frz_lst hr hb
      exact ⟨_, updK_elim h, S', ρ, c1.rel⟩
    · exact h.elim
  | adopt i k sz =>
    obtain ⟨v, hv, h⟩ := getK_elim h
    have fin : ∀ (A : Option Addr), (∀ u, a.tmps[i]? = some u → u = .slice A 0 0) → freshK k own (setK tm i (.sl k 0 none) fun tm' => K ⟨tm', (k, .lst sz [] 1) :: own⟩) → ∃ st', K st' ∧ Good Γ B st' a w := by
      intro A hA h
      obtain ⟨hf, h⟩ := freshK_elim h
      obtain ⟨h1, h⟩ := setK_elim h
      obtain ⟨ρ', e, hr'⟩ := hr.grow (k := k) (blk := .lst sz [] 1) (S' := S) (w' := w) ⟨0, .slice A 0 0⟩ hf (Keep.refl _ w) (fun _ _ h => h) (fun _ _ h => .inl h)
        (fun b j hc => by
          obtain ⟨o, sp, n, cap, e1, g1, g2⟩ := hc
          simp only [Value.slice.injEq] at e1
          obtain ⟨_, rfl, rfl⟩ := e1
          omega)
        (fun ρ' e _ => by
          refine ⟨?_, fun b o sp n cap hv => ?_, fun n cap hv => ?_⟩
          · rw [e]
            exact .list sz [] A 0 (fun _ _ => .nilFunc) (by simp) (fun h => absurd rfl h) (fun x hx => by cases hx) (fun i x hx => by simp at hx)
          · rw [e] at hv
            simp only [Value.slice.injEq] at hv
            obtain ⟨_, rfl, rfl⟩ := hv
            exact .inl rfl
          · rw [e] at hv
            simp only [Value.slice.injEq] at hv
            exact hv.2.2.symm)
      refine ⟨_, h, S, ρ', hr'.slot fun u hu => ?_⟩
      have h3 := hA u hu
      subst h3
      refine .sl k 0 none (.lst sz [] 1) (by simp [look]) _ ?_
      rw [e]
      exact ⟨A, 0, 0, rfl, Nat.le_refl _, Nat.zero_le _, fun _ => rfl, (fun l hl => by cases hl), A, 0, rfl, fun _ => rfl, by omega, (fun h => by omega)⟩
    split at h
    · exact fin none (fun u hu => nils_of (hr.tm i _ u hv hu).t_of) h
    · cases hi : a.tmps[i]? with
      | none => exact fin none (fun u hu => by rw [hi] at hu; cases hu) h
      | some u0 =>
        obtain ⟨ad, e0⟩ := ce_of (hr.tm i _ u0 hv hi)
        exact fin (some ad) (fun u hu => by rw [hi] at hu; cases hu; exact e0) h
    · exact h.elim
theorem nz_good {K : St → Prop} : ∀ {zs : List Nz} {st : St}, nzK Γ.prot zs st K → Good Γ B st a w → ∃ st', K st' ∧ Good Γ B st' a w
  | [], st, h, hg => ⟨st, h, hg⟩
  | z :: r, st, h, hg => by
    obtain ⟨st1, h1, hg1⟩ := nz1_good h hg
    exact nz_good h1 hg1
end
end Go.Nx
end
