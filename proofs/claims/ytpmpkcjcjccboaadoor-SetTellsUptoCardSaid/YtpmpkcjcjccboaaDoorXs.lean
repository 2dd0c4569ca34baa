/-
  REGIONS: in the order of the text; what a step hangs on.
-/
import Derived.Test.YtpmpkcjcjccboaaDoorXr
import Derived.Orders
set_option linter.unusedVariables false
set_option linter.unusedSimpArgs false
namespace Go.Nx
open Go.RowKit

/-! ### what a small program looks at and writes -/
def setOwn (k : Nat) (b : Blk) (own : Own) : Own := match look k own with
  | none => (k, b) :: own
  | some _ => upd k b own
theorem look_setOwn (k : Nat) (b : Blk) (own : Own) (j : Nat) : look j (setOwn k b own) = if j = k then some b else look j own := by
  unfold setOwn
  split
  · by_cases e : j = k
    · subst e; simp [look]
    · simp [look, e, Ne.symm e]
  · rename_i c h
    exact look_upd h j
def wsOn : List (Nat × Blk) → Own → Own
  | [], own => own
  | p :: r, own => wsOn r (setOwn p.1 p.2 own)
/-- the last that is written to a key -/
def wlook (k : Nat) : List (Nat × Blk) → Option Blk
  | [] => none
  | p :: r => match wlook k r with
    | some b => some b
    | none => if k = p.1 then some p.2 else none
theorem look_wsOn (k : Nat) : ∀ (ws : List (Nat × Blk)) (own : Own), look k (wsOn ws own) = match wlook k ws with
    | some b => some b
    | none => look k own := by
  intro ws
  induction ws with
  | nil => intro own; rfl
  | cons p r ih =>
    intro own
    simp only [wsOn, wlook]
    rw [ih]
    cases e : wlook k r with
    | some b => rfl
    | none =>
      simp only
      rw [look_setOwn]
      by_cases h : k = p.1 <;> simp [h]
theorem wlook_mem {k : Nat} {b : Blk} : ∀ {ws : List (Nat × Blk)}, wlook k ws = some b → (k, b) ∈ ws
  | [], h => by cases h
  | p :: r, h => by
    simp only [wlook] at h
    split at h
    · rename_i e; cases h; exact List.mem_cons_of_mem _ (wlook_mem e)
    · split at h
      · rename_i e; cases h; subst e; exact List.mem_cons_self
      · cases h

def quiet : Pg → Prop
  | .ret _ => True
  | .no => True
  | .rd _ _ => False
  | .wr _ _ _ => False
  | .new _ _ _ => False
  | @Pg.req _ _ p => quiet p
  | .br _ p q => quiet p ∧ quiet q
  | .nth _ _ f => ∀ x, quiet (f x)
  | @Pg.alt _ _ p q => quiet p ∧ quiet q

theorem upd_elim {k : Nat} {b : Blk} : ∀ {own : Own} {K : Own → Prop}, updK k b own K → ∃ c, look k own = some c
  | [], K, h => h.elim
  | p :: r, K, h => by
    obtain ⟨j, c⟩ := p
    simp only [updK] at h
    simp only [look]
    split at h
    · rename_i e
      have := Nat.eq_of_beq_eq_true e
      subst this
      exact ⟨c, by simp⟩
    · rename_i e
      have := Nat.ne_of_beq_eq_false e
      obtain ⟨c', h'⟩ := upd_elim h
      exact ⟨c', by simp [this, Ne.symm this, h']⟩

/-- A DRAWN STEP HANGS ON THE BLOCKS IT LOOKS AT ALONE. -/
theorem run_local (p : Pg) : ∀ (own : Own) (log : Log) (K : V → Own → Log → Prop), run true p own log K →
    ∃ v ws l, K v (wsOn ws own) (l ++ log) ∧ (∀ x ∈ ws, (x.1, true) ∈ l) ∧ (quiet p → l = []) ∧
      ∀ (own' : Own) (log' : Log) (K' : V → Own → Log → Prop), (∀ k c, (k, c) ∈ l → look k own' = look k own) → K' v (wsOn ws own') (l ++ log') → run true p own' log' K' := by
  induction p with
  | ret v => intro own log K h; exact ⟨v, [], [], h, (fun x hx => by cases hx), fun _ => rfl, fun own' log' K' _ hK => hK⟩
  | no => intro own log K h; exact h.elim
  | rd k f ih =>
    intro own log K h
    rw [run_rd] at h
    obtain ⟨b, hb, h⟩ := lkupK_elim h
    obtain ⟨v, ws, l, h1, h2, _, h3⟩ := ih b own _ K h
    refine ⟨v, ws, l ++ [(k, false)], by simpa using h1, fun x hx => List.mem_append.2 (.inl (h2 x hx)), fun hq => hq.elim, fun own' log' K' ha hK => ?_⟩
    rw [run_rd]
    refine lkupK_mk (b := b) (by rw [ha k false (by simp)]; exact hb) (h3 own' _ K' (fun k c hk => ha k c (List.mem_append.2 (.inl hk))) (by simpa using hK))
  | wr k b p ih =>
    intro own log K h
    rw [run_wr] at h
    obtain ⟨c, hc⟩ := upd_elim h
    replace h := updK_elim h
    obtain ⟨v, ws, l, h1, h2, _, h3⟩ := ih _ _ K h
    have e1 : upd k b own = setOwn k b own := by simp [setOwn, hc]
    refine ⟨v, (k, b) :: ws, l ++ [(k, true)], by simpa [wsOn, e1] using h1, fun x hx => ?_, fun hq => hq.elim, fun own' log' K' ha hK => ?_⟩
    · rcases List.mem_cons.1 hx with rfl | hx
      · simp
      · exact List.mem_append.2 (.inl (h2 x hx))
    · have hc' : look k own' = some c := by rw [ha k true (by simp)]; exact hc
      have e2 : upd k b own' = setOwn k b own' := by simp [setOwn, hc']
      rw [run_wr]
      refine updK_mk hc' (h3 _ _ K' (fun j c hj => ?_) (by simpa [wsOn, e2] using hK))
      rw [e1, e2, look_setOwn, look_setOwn, ha j c (List.mem_append.2 (.inl hj))]
  | new k b p ih =>
    intro own log K h
    rw [run_new] at h
    obtain ⟨hc, h⟩ := freshK_elim h
    obtain ⟨v, ws, l, h1, h2, _, h3⟩ := ih _ _ K h
    have e1 : (k, b) :: own = setOwn k b own := by simp [setOwn, hc]
    refine ⟨v, (k, b) :: ws, l ++ [(k, true)], by simpa [wsOn, ← e1] using h1, fun x hx => ?_, fun hq => hq.elim, fun own' log' K' ha hK => ?_⟩
    · rcases List.mem_cons.1 hx with rfl | hx
      · simp
      · exact List.mem_append.2 (.inl (h2 x hx))
    · have hc' : look k own' = none := by rw [ha k true (by simp)]; exact hc
      have e2 : (k, b) :: own' = setOwn k b own' := by simp [setOwn, hc']
      rw [run_new]
      refine freshK_mk hc' (h3 _ _ K' (fun j c hj => ?_) (by simpa [wsOn, ← e2] using hK))
      rw [e1, e2, look_setOwn, look_setOwn, ha j c (List.mem_append.2 (.inl hj))]
  | req c p ih =>
    intro own log K h
    obtain ⟨hc, h⟩ := req_elim h
    obtain ⟨v, ws, l, h1, h2, h4, h3⟩ := ih _ _ K h
    exact ⟨v, ws, l, h1, h2, h4, fun own' log' K' ha hK => by rw [run_req]; exact reqK_of hc (h3 _ _ K' ha hK)⟩
  | br b p q ihp ihq =>
    intro own log K h
    rcases br_elim h with ⟨hb, h⟩ | ⟨hb, h⟩
    · obtain ⟨v, ws, l, h1, h2, h4, h3⟩ := ihp _ _ K h
      exact ⟨v, ws, l, h1, h2, fun hq => h4 hq.1, fun own' log' K' ha hK => by rw [run_br]; exact brK_true hb (h3 _ _ K' ha hK)⟩
    · obtain ⟨v, ws, l, h1, h2, h4, h3⟩ := ihq _ _ K h
      exact ⟨v, ws, l, h1, h2, fun hq => h4 hq.2, fun own' log' K' ha hK => by rw [run_br]; exact brK_false hb (h3 _ _ K' ha hK)⟩
  | nth xs i f ih =>
    intro own log K h
    obtain ⟨h0, x, hx, h⟩ := nth_elim h
    obtain ⟨v, ws, l, h1, h2, h4, h3⟩ := ih x _ _ K h
    exact ⟨v, ws, l, h1, h2, fun hq => h4 (hq x), fun own' log' K' ha hK => by rw [run_nth]; exact nthK_of x h0 hx (h3 _ _ K' ha hK)⟩
  | alt c p q ihp ihq => intro own log K h; exact h.elim

/-! ### which steps look at nothing -/
theorem quiet_getP {α : Type} {f : α → Pg} (h : ∀ x, quiet (f x)) : ∀ (l : List α) (n : Nat), quiet (getP l n f)
  | [], _ => trivial
  | x :: r, 0 => h x
  | x :: r, n + 1 => quiet_getP h r n
theorem quiet_takeP {α : Type} : ∀ (l : List α) (o n : Nat) (f : List α → Pg), (∀ x, quiet (f x)) → quiet (takeP l o n f)
  | l, o, 0, f, h => by unfold takeP; exact h _
  | [], o, n + 1, f, h => by unfold takeP; trivial
  | x :: r, 0, n + 1, f, h => by unfold takeP; exact quiet_takeP r 0 n _ fun l => h _
  | x :: r, o + 1, n + 1, f, h => by unfold takeP; exact quiet_takeP r o (n + 1) _ h
theorem quiet_rdP {cs : List V} {off : Nat} {n : Option Nat} {f : V → Pg} (h : ∀ v, quiet (f v)) : quiet (rdP cs off n f) := by
  cases n with
  | none => exact quiet_getP h _ _
  | some n => exact quiet_takeP _ _ _ _ fun l => h _
theorem quiet_rdTP {cs : List T} {off : Nat} {n : Option Nat} {f : V → Pg} (h : ∀ v, quiet (f v)) : quiet (rdTP cs off n f) := by
  cases n with
  | none => exact quiet_getP (fun x => h _) _ _
  | some n => exact quiet_takeP _ _ _ _ fun l => h _
theorem quiet_tagP : ∀ (l : List T) (f : List V → Pg), (∀ x, quiet (f x)) → quiet (tagP l f)
  | [], f, h => h _
  | x :: r, f, h => quiet_tagP r _ fun l => h _
theorem quiet_oneP {x : T} {p : Pg} (h : quiet p) : quiet (oneP x p) := by unfold oneP; split <;> first | trivial | exact h
theorem quiet_onesP : ∀ (l : List T) {p : Pg}, quiet p → quiet (onesP l p)
  | [], p, h => h
  | x :: r, p, h => quiet_oneP (quiet_onesP r h)
theorem quiet_oneVP {x : V} {p : Pg} (h : quiet p) : quiet (oneVP x p) := by unfold oneVP; split <;> first | trivial | exact quiet_oneP h | exact h
theorem quiet_onesVP : ∀ (l : List V) {p : Pg}, quiet p → quiet (onesVP l p)
  | [], p, h => h
  | x :: r, p, h => quiet_oneVP (quiet_onesVP r h)
theorem quiet_cellsP {v : V} {f : List V → Pg} (h : ∀ x, quiet (f x)) : quiet (cellsP v f) := by
  unfold cellsP
  split
  · split
    · exact quiet_onesP _ (quiet_tagP _ _ h)
    · trivial
    · exact h _
  · exact quiet_onesVP _ (h _)
  · trivial
  · trivial
  · exact h _
theorem quiet_lenP {α : Type} {p : Pg} (h : quiet p) : ∀ (l : List α) (n : Nat), quiet (lenP l n p)
  | [], 0 => h
  | [], n + 1 => trivial
  | x :: r, 0 => trivial
  | x :: r, n + 1 => quiet_lenP h r n
theorem quiet_putNP {α : Type} : ∀ (cs : List α) (o : Nat) (l : List α) (f : List α → Pg), (∀ x, quiet (f x)) → quiet (putNP cs o l f)
  | cs, o, [], f, h => by unfold putNP; exact h _
  | [], o, x :: l, f, h => by unfold putNP; trivial
  | c :: r, 0, v :: vs, f, h => by unfold putNP; exact quiet_putNP r 0 vs _ fun l => h _
  | c :: r, o + 1, v :: vs, f, h => by unfold putNP; exact quiet_putNP r o (v :: vs) _ fun l => h _
theorem quiet_fillP : ∀ (ps : List (Nat × Nat × Opd)) (vs cs : List V) (f : List V → Pg), (∀ x, quiet (f x)) → quiet (fillP ps vs cs f)
  | [], vs, cs, f, h => by unfold fillP; exact h _
  | (o, n, x) :: ps, [], cs, f, h => by unfold fillP; trivial
  | (o, n, x) :: ps, v :: vs, cs, f, h => by unfold fillP; exact quiet_cellsP fun l => quiet_lenP (quiet_putNP _ _ _ _ fun cs' => quiet_fillP ps vs cs' f h) _ _
theorem quiet_intP {v : V} {f : Int → Pg} (h : ∀ x, quiet (f x)) : quiet (intP v f) := by unfold intP; split <;> first | exact h _ | trivial
theorem quiet_bndP {o : Option Opd} {vs : List V} {f : Option Int → List V → Pg} (h : ∀ x y, quiet (f x y)) : quiet (bndP o vs f) := by
  unfold bndP
  split
  · exact h _ _
  · split
    · exact quiet_intP fun z => h _ _
    · trivial
def Ans.pure : Ans → Prop
  | @Ans.gl _ _ _ _ => False
  | _ => True
theorem quiet_ansP {a : Ans} (h : a.pure) {k : Nat} : quiet (ansP a k) := by
  cases a <;> first | trivial | exact h.elim
theorem pure_binI (op : BinOp) (k : IntKind) (a b : Int) : (binI op k a b).pure := by cases op <;> trivial
theorem pure_binA (op : BinOp) (x y : T) : (binA op x y).pure := by
  unfold binA
  split
  · split
    · exact pure_binI _ _ _ _
    · split <;> first | exact pure_binI _ _ _ _ | trivial
  · split <;> trivial
  · trivial
theorem pure_binbA (op : BinOp) (x y : T) : (binbA op x y).pure := by
  unfold binbA
  repeat' split
  all_goals trivial
theorem pure_unA (op : UnOp) (x : T) : (unA op x).pure := by
  unfold unA
  repeat' split
  all_goals trivial
theorem quiet_prog {base : Nat} {op : MK} (h : hasK op = false) (vs : List V) : quiet (prog base op vs) := by
  cases op <;> first | (simp [hasK] at h; done) | skip
  all_goals (unfold prog; repeat' split)
  all_goals first
    | trivial
    | exact ⟨trivial, trivial⟩
    | exact quiet_rdTP fun _ => trivial
    | exact quiet_rdP fun _ => trivial
    | exact quiet_intP fun _ => trivial
    | exact quiet_intP fun _ => fun _ => trivial
    | exact quiet_intP fun _ => (by split <;> first | trivial | exact fun _ => trivial)
    | exact quiet_ansP (pure_binA _ _ _)
    | exact quiet_ansP (pure_binbA _ _ _)
    | exact quiet_ansP (pure_unA _ _)
    | exact quiet_tagP _ _ fun _ => quiet_fillP _ _ _ _ fun _ => trivial
    | exact quiet_getP (f := fun y => Pg.ret (V.t y)) (fun _ => trivial) _ _
    | exact quiet_getP (f := fun y => Pg.ret y) (fun _ => trivial) _ _
    | exact quiet_bndP fun _ _ => quiet_bndP fun _ _ => trivial
    | skip

/-! ### a drawn step -/
structure Out where
  v : V
  ws : List (Nat × Blk)
def Out.on (u : Out) (d : Option Nat) (st : St) : St := (⟨st.tm, wsOn u.ws st.own⟩ : St).put d u.v

/-- the same, as far as op reads -/
structure Alike (op : MK) (l : Log) (tm tm' : List V) (own own' : Own) : Prop where
  len : tm'.length = tm.length
  tms : ∀ x ∈ opds op, ∀ i, x = .t i → tm'[i]? = tm[i]?
  owns : ∀ k c, (k, c) ∈ l → look k own' = look k own

/-- WHAT A STEP DOES, and that it does so wherever what it looks at is the same. -/
structure Local (Γ : Env) (d : Option Nat) (op : MK) (tm : List V) (own : Own) (u : Out) (l : Log) : Prop where
  slot : ∀ i, d = some i → i < tm.length
  ws : ∀ x ∈ u.ws, (x.1, true) ∈ l
  has : hasK op = false → l = []
  run : ∀ tm' own', Alike op l tm tm' own own' → ∀ K : St → Log → Prop, K (u.on d ⟨tm', own'⟩) l → stepK Γ true d ⟨tm', own'⟩ op K

theorem evF_alike {Γ : Env} {op : MK} {l : Log} {tm tm' : List V} {own own' : Own} (h : Alike op l tm tm' own own') {x : Opd} (hx : x ∈ opds op) : evF Γ tm' x = evF Γ tm x := by
  cases x with
  | t i => exact h.tms _ hx i rfl
  | k x => rfl
  | g i => rfl
theorem step_local {Γ : Env} {d : Option Nat} {tm : List V} {own : Own} {op : MK} {K : St → Log → Prop} (h : stepK Γ true d ⟨tm, own⟩ op K) :
    ∃ u l, K (u.on d ⟨tm, own⟩) l ∧ Local Γ d op tm own u l := by
  -- what is run, and on what
  have main : ∀ (p : Pg) (vs : List V), vs.length = (opds op).length → (∀ (i : Nat) (x : Opd), (opds op)[i]? = some x → ∃ v, vs[i]? = some v ∧ evF Γ tm x = some v) → (hasK op = false → quiet p) →
      (∀ tm' own' (K' : St → Log → Prop), (vs.length = (opds op).length ∧ ∀ (i : Nat) (x : Opd), (opds op)[i]? = some x → ∃ v, vs[i]? = some v ∧ evF Γ tm' x = some v) →
        run true p own' [] (fun v own' log => putK ⟨tm', own'⟩ d v fun st => K' st log) → stepK Γ true d ⟨tm', own'⟩ op K') →
      run true p own [] (fun v own' log => putK ⟨tm, own'⟩ d v fun st => K st log) → ∃ u l, K (u.on d ⟨tm, own⟩) l ∧ Local Γ d op tm own u l := by
    intro p vs hv1 hv2 hq hre hrun
    obtain ⟨v, ws, l, h1, h2, h3, h4⟩ := run_local p _ _ _ hrun
    obtain ⟨h5, h6⟩ := putK_elim h1
    rw [List.append_nil] at h6
    refine ⟨⟨v, ws⟩, l, h6, h5, h2, fun hk => h3 (hq hk), fun tm' own' ha K' hK' => ?_⟩
    refine hre tm' own' K' ⟨hv1, fun i x hx => ?_⟩ (h4 own' [] _ ha.owns ?_)
    · obtain ⟨y, g1, g2⟩ := hv2 i x hx
      exact ⟨y, g1, by rw [evF_alike ha (List.mem_of_getElem? hx)]; exact g2⟩
    · refine putK_mk (fun i hi => ?_) (by rw [List.append_nil]; exact hK')
      show i < tm'.length
      rw [ha.len]; exact h5 i hi
  by_cases hc : isCall op = true
  · cases op <;> first | (simp [isCall] at hc; done) | skip
    rename_i key f args
    obtain ⟨vs, hv1, hv2, h⟩ := evsK_elim h
    obtain ⟨fv, avs, rfl, hfv, hargs⟩ := vals_cons (x := f) (xs := args) ⟨hv1, hv2⟩
    simp only [inlQ_dr] at h
    have callee : ∃ n first caps, (∀ K : Nat → List V → List V → Prop, K n first caps → calleeK fv K) ∧ (match inlD (Γ.isI n) (Γ.isD n) true with
          | true => drK fun own1 v => DrOk (first ++ (avs ++ caps)) own1 own v ∧ Γ.pt n (Nat.mul (keyB Γ.base key) 1024) (first ++ (avs ++ caps)) own1 (fun v' own' => v' = v ∧ own' = own1) ∧ putK ⟨tm, own⟩ d v fun st => K st (own1.map fun p => (p.1, false))
          | false => run true (callP (Γ.fn n) (first ++ (avs ++ caps)) (keyB Γ.base key)) own [] fun v own' log => putK ⟨tm, own'⟩ d v fun st => K st log) := by
      unfold calleeK at h
      split at h
      · rename_i n first caps
        refine ⟨n, first.map .t, caps.map .t, fun K hK => ?_, tagK_elim (tagK_elim h)⟩
        show tagK first fun a => tagK caps fun b => K n a b
        have tk : ∀ (l : List T) (K : List V → Prop), K (l.map .t) → tagK l K := by
          intro l
          induction l with
          | nil => intro K h; exact h
          | cons x r ih => intro K h; exact ih _ h
        exact tk _ _ (tk _ _ hK)
      · rename_i n first caps
        exact ⟨n, first, caps, fun K hK => hK, h⟩
      · exact h.elim
    obtain ⟨n, first, caps, hmk, h⟩ := callee
    split at h
    · rename_i hD
      obtain ⟨own1, v, hok, hpt, hK⟩ := drK_elim h
      obtain ⟨hv, hs, ha, hc⟩ := hok
      obtain ⟨h5, h6⟩ := putK_elim hK
      refine ⟨⟨v, []⟩, _, h6, h5, (fun x hx => (by cases hx)), fun hk => by simp [hasK] at hk, fun tm' own' hal K' hK' => ?_⟩
      refine evsK_mk hv1 (fun i x hx => ?_) ?_
      · obtain ⟨y, g1, g2⟩ := hv2 i x hx
        exact ⟨y, g1, by rw [evF_alike hal (List.mem_of_getElem? hx)]; exact g2⟩
      dsimp only
      refine hmk _ ?_
      rw [inlQ_dr]
      dsimp only
      rw [hD]
      refine drK_of own1 v ⟨⟨hv, fun p hp => ?_, ha, hc⟩, hpt, putK_mk (fun i hi => ?_) hK'⟩
      · obtain ⟨b, h1, h2⟩ := lkupK_elim (hs p hp)
        exact lkupK_mk (by rw [hal.owns p.1 false (List.mem_map.2 ⟨p, hp, rfl⟩)]; exact h1) h2
      · show i < tm'.length
        rw [hal.len]; exact h5 i hi
    rename_i hD
    refine main _ (fv :: avs) hv1 hv2 (fun hk => by simp [hasK] at hk) (fun tm' own' K' hv hrun => ?_) h
    refine evsK_mk hv.1 hv.2 ?_
    dsimp only
    refine hmk _ ?_
    rw [inlQ_dr]
    dsimp only
    rw [hD]
    exact hrun
  · have hc : isCall op = false := by simpa using hc
    have e : ∀ tm' own' (K' : St → Log → Prop), stepK Γ true d ⟨tm', own'⟩ op K' = evsK Γ tm' (opds op) fun vs => run true (prog Γ.base op vs) own' [] fun v own' log => putK ⟨tm', own'⟩ d v fun st => K' st log := by
      intro tm' own' K'
      cases op <;> first | rfl | (simp [isCall] at hc)
    rw [e] at h
    obtain ⟨vs, hv1, hv2, h⟩ := evsK_elim h
    exact main _ vs hv1 hv2 (fun hk => quiet_prog hk vs) (fun tm' own' K' hv hrun => by rw [e]; exact evsK_mk hv.1 hv.2 hrun) h

section
variable {P : Program} {Γ : Env} {B : Base} {Q : Exit → Act → World → Prop}

theorem step_good (hΓ : EnvOk P Γ) {o : Oper} {mk : MK} (hl : lowOp P o = some mk) {st : St} {a : Act} {w : World} {dr : Bool} {K : St → Log → Prop} {next : Act → World → Prop} (h : stepK Γ dr o.dst st mk K) (hg : Good Γ B st a w)
    (hn : ∀ st' log a' w', K st' log → Good Γ B st' a' w' → next a' w') : o.wp P a w next Q := by
  obtain ⟨S, ρ, hr⟩ := hg
  obtain ⟨tm, own⟩ := st
  exact step_sound hΓ hn hr hl h
theorem good_put {st : St} {a : Act} {w : World} (hg : Good Γ B st a w) (d : Option Nat) : Good Γ B (st.put d (.t .undef)) (a.put d undef) w := by
  obtain ⟨S, ρ, hr⟩ := hg
  exact ⟨S, ρ, hr.put rel_undef⟩

/-- the guard's slot -/
theorem guard_slot {ops : Array Oper} {st : St} {a : Act} {w : World} (hg : Good Γ B st a w) {j t : Nat} (hj : (ops[j]?).bind (·.dst) = some t) {v : V} (hv : st.tm[t]? = some v) :
    (∀ b, v = .t (.bool b) → yielded ops a.tmps j = some b) ∧ (∀ l, v = .t (.tup l) → yielded ops a.tmps j = none) := by
  obtain ⟨S, ρ, hr⟩ := hg
  obtain ⟨tm, own⟩ := st
  have h1 := hr.ev hv
  have hlt : t < a.tmps.size := by
    rw [hr.len]
    rcases Nat.lt_or_ge t tm.length with h | h
    · exact h
    · rw [List.getElem?_eq_none h] at hv; cases hv
  have e : a.tmps[t]? = some (a.tmps.getD t undef) := by simp [hlt]
  refine ⟨fun b hb => ?_, fun l hl => ?_⟩
  · subst hb
    have := RelT.bool_of h1.t_of
    simp [yielded, hj, e, this]
  · subst hl
    have h2 : RelT S w (.tup l) (a.tmps.getD t undef) := h1.t_of
    generalize a.tmps.getD t undef = u at h2 e
    cases h2
    simp [yielded, hj, e]

theorem lowG_spec {ops : Array Oper} {o : Oper} {g : Option (Nat × Bool)} (h : lowG ops o = some g) : (g = none ∧ o.guard = none) ∨ ∃ j t b, g = some (t, b) ∧ o.guard = some (j, b) ∧ (ops[j]?).bind (·.dst) = some t := by
  unfold lowG at h
  split at h
  · rename_i e; cases h; exact .inl ⟨rfl, e⟩
  · rename_i j b e
    split at h
    · rename_i t e2; cases h; exact .inr ⟨j, t, b, rfl, e, e2⟩
    · cases h

theorem lowOps_cons {ops : Array Oper} {o : Oper} {r : List Oper} {ml : List MOp} (h : lowOps P ops (o :: r) = some ml) : ∃ k g l, lowOp P o = some k ∧ lowG ops o = some g ∧ lowOps P ops r = some l ∧ ml = ⟨o.dst, k, g⟩ :: l := by
  simp only [lowOps] at h
  split at h
  · rename_i k g l h1 h2 h3; cases h; exact ⟨k, g, l, h1, h2, h3, rfl⟩
  · cases h

theorem runOps_sound (hΓ : EnvOk P Γ) {ops : Array Oper} : ∀ (l : List Oper) (ml : List MOp) (st : St) (a : Act) (w : World) (K : St → Prop), lowOps P ops l = some ml → runOps Γ ml st K → Good Γ B st a w →
    (∀ st' a' w', K st' → Good Γ B st' a' w' → Q .normal a' w') → wpList P ops Q l a w := by
  intro l
  induction l with
  | nil =>
    intro ml st a w K hl h hg hQ
    simp [lowOps] at hl; subst hl
    exact hQ _ _ _ h hg
  | cons o r ih =>
    intro ml st a w K hl h hg hQ
    obtain ⟨k, g, l', h1, h2, h3, rfl⟩ := lowOps_cons hl
    simp only [runOps_nil, runOps_cons] at h
    unfold wpList
    have run : Region.wanted o (yielded ops a.tmps) = true → stepK Γ false o.dst st k (fun st _ => runOps Γ l' st K) →
        (if Region.wanted o (yielded ops a.tmps) = true then o.wp P a w (wpList P ops Q r) Q ∨ (o.asks P a w ∧ LetsOut Q) else wpList P ops Q r (a.put o.dst undef) w) := fun hw hs => by
      rw [if_pos hw]
      exact .inl (step_good hΓ h1 hs hg fun st' _ a' w' hK hg' => ih l' st' a' w' K h3 hK hg' hQ)
    have skip : Region.wanted o (yielded ops a.tmps) = false → putK st o.dst (.t .undef) (fun st => runOps Γ l' st K) →
        (if Region.wanted o (yielded ops a.tmps) = true then o.wp P a w (wpList P ops Q r) Q ∨ (o.asks P a w ∧ LetsOut Q) else wpList P ops Q r (a.put o.dst undef) w) := fun hw hs => by
      rw [if_neg (by simp [hw])]
      exact ih l' _ _ _ K h3 (putK_elim hs).2 (good_put hg o.dst) hQ
    rcases lowG_spec h2 with ⟨rfl, hgd⟩ | ⟨j, t, b, rfl, hgd, hd⟩
    · exact run (by simp [Region.wanted, hgd]) h
    · obtain ⟨tm, own⟩ := st
      dsimp only at h
      obtain ⟨v, hv, h⟩ := getK_elim h
      obtain ⟨q1, q2⟩ := guard_slot hg hd hv
      split at h
      · rename_i c
        have q3 := q1 c rfl
        have hw : Region.wanted o (yielded ops a.tmps) = (c == b) := by simp [Region.wanted, hgd, q3]
        cases b
        · (have h0 := brK_elim h; clear h); rcases h0 with ⟨e, h⟩ | ⟨e, h⟩ <;> subst e
          · exact skip (by rw [hw]; rfl) h
          · exact run (by rw [hw]; rfl) h
        · (have h0 := brK_elim h; clear h); rcases h0 with ⟨e, h⟩ | ⟨e, h⟩ <;> subst e
          · exact run (by rw [hw]; rfl) h
          · exact skip (by rw [hw]; rfl) h
      · have q3 := q2 _ rfl
        exact skip (by simp [Region.wanted, hgd, q3]) h
      · exact h.elim
end
end Go.Nx
