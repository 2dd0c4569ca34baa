/-
  WHAT strings.Split AT ONE BYTE AND strconv.Atoi ANSWER, AT ANY TEXT.
-/
import Derived.Test.YtpmpkcjcjccboaaDoorSy
import Derived.Shelf.Strings.SplitCore
import Derived.Lib.SplitLaws
import Derived.Shelf.Strconv.AtoiAll
set_option linter.unusedVariables false
set_option linter.unusedSimpArgs false
namespace Go.Proofs
open Go.Shelf
def Tryd.lays221_ren : Go.Shelf.Ren := ⟨fun | 221 => 40 | 268 => 49 | 138 => 50 | 143 => 51 | 195 => 60 | 197 => 61 | 218 => 62 | 219 => 63 | 260 => 73 | 217 => 74 | 225 => 75 | 224 => 76 | 267 => 77 | 266 => 85 | 314 => 86 | n => n, fun | 9 => 9 | 3 => 3 | 31 => 54 | 4 => 4 | 0 => 0 | 105 => 86 | 21 => 21 | 5 => 5 | 46 => 67 | 119 => 113 | 139 => 116 | 138 => 115 | 146 => 117 | 51 => 110 | n => n, fun | 1 => 3 | 3 => 5 | 4 => 6 | n => n⟩
theorem Tryd.lays221 : Go.Proofs.Lays.n221 Tryd.prog Tryd.lays221_ren := {
  mixed := by kernel_rfl
  f138 := Tryd.func50.trans (congrArg some (by kernel_rfl))
  f143 := Tryd.func51.trans (congrArg some (by kernel_rfl))
  f195 := Tryd.func60.trans (congrArg some (by kernel_rfl))
  f197 := Tryd.func61.trans (congrArg some (by kernel_rfl))
  f217 := Tryd.func74.trans (congrArg some (by kernel_rfl))
  f218 := Tryd.func62.trans (congrArg some (by kernel_rfl))
  f219 := Tryd.func63.trans (congrArg some (by kernel_rfl))
  f221 := Tryd.func40.trans (congrArg some (by kernel_rfl))
  f224 := Tryd.func76.trans (congrArg some (by kernel_rfl))
  f225 := Tryd.func75.trans (congrArg some (by kernel_rfl))
  f260 := Tryd.func73.trans (congrArg some (by kernel_rfl))
  f266 := Tryd.func85.trans (congrArg some (by kernel_rfl))
  f267 := Tryd.func77.trans (congrArg some (by kernel_rfl))
  f268 := Tryd.func49.trans (congrArg some (by kernel_rfl))
  f314 := Tryd.func86.trans (congrArg some (by kernel_rfl))
  t0 := Tryd.underlying0
  a0 := Tryd.isAgg0
  z0 := Tryd.sizeOf0
  v0 := Tryd.zeroValue0
  t3 := Tryd.underlying3
  a3 := Tryd.isAgg3
  z3 := Tryd.sizeOf3
  v3 := Tryd.zeroValue3
  t4 := Tryd.underlying4
  a4 := Tryd.isAgg4
  z4 := Tryd.sizeOf4
  v4 := Tryd.zeroValue4
  t5 := Tryd.underlying5
  a5 := Tryd.isAgg5
  z5 := Tryd.sizeOf5
  v5 := Tryd.zeroValue5
  t9 := Tryd.underlying9
  a9 := Tryd.isAgg9
  z9 := Tryd.sizeOf9
  v9 := Tryd.zeroValue9
  t21 := Tryd.underlying21
  a21 := Tryd.isAgg21
  z21 := Tryd.sizeOf21
  v21 := Tryd.zeroValue21
  t31 := Tryd.underlying54
  a31 := Tryd.isAgg54
  z31 := Tryd.sizeOf54
  v31 := Tryd.zeroValue54
  t46 := Tryd.underlying67
  a46 := Tryd.isAgg67
  z46 := Tryd.sizeOf67
  v46 := Tryd.zeroValue67
  t51 := Tryd.underlying110
  a51 := Tryd.isAgg110
  z51 := Tryd.sizeOf110
  v51 := Tryd.zeroValue110
  t105 := Tryd.underlying86
  a105 := Tryd.isAgg86
  z105 := Tryd.sizeOf86
  v105 := Tryd.zeroValue86
  t119 := Tryd.underlying113
  a119 := Tryd.isAgg113
  z119 := Tryd.sizeOf113
  t138 := Tryd.underlying115
  a138 := Tryd.isAgg115
  z138 := Tryd.sizeOf115
  v138 := Tryd.zeroValue115
  t139 := Tryd.underlying116
  a139 := Tryd.isAgg116
  z139 := Tryd.sizeOf116
  v139 := Tryd.zeroValue116
  t146 := Tryd.underlying117
  a146 := Tryd.isAgg117
  z146 := Tryd.sizeOf117
  v146 := Tryd.zeroValue117
  g1 := by kernel_rfl
  g3 := by kernel_rfl
  g4 := by kernel_rfl }
end Go.Proofs

namespace Go.Nx
open Go Go.RowKit Go.Shelf Go.Proofs

/-- a list of texts -/
def ss (l : List (List UInt8)) : List T := l.map fun p => .str ⟨p.toArray⟩
@[simp] theorem ss_len (l : List (List UInt8)) : (ss l).length = l.length := by simp [ss]
def atB (l : List (List UInt8)) (i : Int) : List UInt8 := l.getD i.toNat []
theorem nth_ss {l : List (List UInt8)} {i : Int} {K : T → Prop} (h0 : 0 ≤ i) (h1 : i < l.length) (h : K (.str ⟨(atB l i).toArray⟩)) : nthK (ss l) i K := by
  refine nthK_of _ h0 ?_ h
  unfold ss atB
  rw [List.getElem?_map, List.getD_eq_getElem?_getD, List.getElem?_eq_getElem (by omega)]
  rfl
theorem indexB_one (x : ByteArray) (c : UInt8) : Lib.indexB x ⟨#[c]⟩ = Lib.indexByte x.data.toList c := Lib.index_one _ _
theorem splitB_spl (c : UInt8) (s : ByteArray) : Lib.splitB ⟨#[c]⟩ 0 (Lib.countB s ⟨#[c]⟩) s = (spl c s.data.toList).map fun p => (⟨p.toArray⟩ : ByteArray) := by
  have h := Lib.splitB_data ⟨#[c]⟩ 0 (Lib.countB s ⟨#[c]⟩) s
  have e : Lib.countB s ⟨#[c]⟩ = s.data.toList.count c := Lib.count_one c s.data.toList
  rw [e] at h ⊢
  have h2 : (Lib.splitB ⟨#[c]⟩ 0 (s.data.toList.count c) s).map (fun b => b.data.toList) = spl c s.data.toList := h.trans (splitK_spl c _)
  rw [← h2, List.map_map]
  exact (List.map_id' _).symm
theorem genSplit_calls (s : ByteArray) (c : UInt8) (w : World) (hs : s.size ≤ 1048576) :
    Calls Tryd.prog 40 #[.string s, .string ⟨#[c]⟩, .int .i64 0, .int .i64 (-1)] w fun e w' =>
      e = .returned (.slice (some ⟨w.heap.size, 0, none⟩) (spl c s.data.toList).length (spl c s.data.toList).length) ∧ w' = w.alloc (.cells ((spl c s.data.toList).map fun p => Value.string ⟨p.toArray⟩).toArray 9) := by
  have hle := Lib.countB_le ⟨#[c]⟩ (Nat.le_refl 1) s.size s (Nat.le_refl _)
  have hlen := Lib.splitB_all ⟨#[c]⟩ (Nat.le_refl 1) 0 _ s rfl
  have h := Any.strings_genSplit_core Tryd.lays221 (by kernel_rfl) s ⟨#[c]⟩ 0 (-1) (Lib.countB s ⟨#[c]⟩ + 1) w (by omega) (Nat.le_refl 1) (Nat.zero_le _)
    (fun x cs hx => (Tryd.strings_Index_one x c _).mono fun e w' ⟨he, hw⟩ => ⟨by rw [he, indexB_one], hw⟩)
    ((Tryd.strings_Count_one s c w).mono fun e w' ⟨he, hw⟩ => ⟨by rw [he]; exact congrArg (fun n : Nat => Ending.returned (Value.int .i64 (n : Int))) (Lib.count_one c s.data.toList).symm, hw⟩) (by decide) (by decide) (by rw [if_pos (by decide)]; omega)
  rw [Nat.add_sub_cancel] at h
  have e2 : Lib.cellsOf (Lib.splitB ⟨#[c]⟩ 0 (Lib.countB s ⟨#[c]⟩) s) (Lib.countB s ⟨#[c]⟩ + 1) = ((spl c s.data.toList).map fun p => Value.string ⟨p.toArray⟩).toArray := by
    rw [← hlen, Lib.cellsOf_full, splitB_spl, List.map_map]; rfl
  rw [e2, hlen, show Lib.countB s ⟨#[c]⟩ + 1 = (spl c s.data.toList).length by rw [← hlen, splitB_spl, List.length_map]] at h
  exact h
theorem four_arg {args : Array Value} (h : args.size = 4) {u v x y : Value} (hu : args[0]? = some u) (hv : args[1]? = some v) (hx : args[2]? = some x) (hy : args[3]? = some y) : args = #[u, v, x, y] := by
  apply Array.ext
  · simpa using h
  · intro i h1 h2
    match i with
    | 0 => rw [Array.getElem?_eq_getElem (by omega)] at hu; simpa using hu
    | 1 => rw [Array.getElem?_eq_getElem (by omega)] at hv; simpa using hv
    | 2 => rw [Array.getElem?_eq_getElem (by omega)] at hx; simpa using hx
    | 3 => rw [Array.getElem?_eq_getElem (by omega)] at hy; simpa using hy
    | i + 4 => simp at h2; omega
theorem row_new (w : World) (e : TypeId) (vs : List Value) (h : vs.length ≤ maxLen) : (w.alloc (.cells vs.toArray e)).ownsRow w.heap.size e 1 (.slice (some ⟨w.heap.size, 0, none⟩) vs.length vs.length) vs.length vs :=
  ⟨(Nat.mul_one _).symm, .inr ⟨w.heap.size, vs.length, vs.toArray, rfl, Nat.le_refl _, Array.getElem?_push_size, Nat.le_refl _, h, by rw [Nat.mul_one]; exact List.size_toArray, by rw [Nat.mul_one]; exact List.take_of_length_le (Nat.le_refl _)⟩⟩
theorem flat_ss {l : List (List UInt8)} : ∀ x ∈ ss l, Flat 1 x := by
  intro x hx
  unfold ss at hx
  obtain ⟨n, _, rfl⟩ := List.mem_map.1 hx
  exact ⟨rfl, fun c hc => by simp [T.cells] at hc; subst hc; rfl⟩
theorem gl40_ok (s : ByteArray) (c : UInt8) (hs : s.size ≤ 1048576) : FnGl Tryd.prog tgl 40 [.str s, .str ⟨#[c]⟩, .int .i64 0, .int .i64 (-1)] 1 (ss (spl c s.data.toList)) := by
  refine ⟨⟨_, Tryd.func40, rfl, by decide⟩, fun S w args hS hgl hsz hrel => ?_⟩
  have hz : args.size = 4 := hsz
  obtain rfl : args = #[.string s, .string ⟨#[c]⟩, .int .i64 0, .int .i64 (-1)] := four_arg hz (by rw [Array.getElem?_eq_getElem (by omega)]; exact congrArg some (RelT.str_of (hrel 0 _ (args[0]'(by omega)) rfl (by simp))))
    (by rw [Array.getElem?_eq_getElem (by omega)]; exact congrArg some (RelT.str_of (hrel 1 _ (args[1]'(by omega)) rfl (by simp))))
    (by rw [Array.getElem?_eq_getElem (by omega)]; exact congrArg some (RelT.int_of (hrel 2 _ (args[2]'(by omega)) rfl (by simp))))
    (by rw [Array.getElem?_eq_getElem (by omega)]; exact congrArg some (RelT.int_of (hrel 3 _ (args[3]'(by omega)) rfl (by simp))))
  refine (genSplit_calls s c w hs).mono ?_
  rintro e W' ⟨rfl, rfl⟩
  have hl := spl_len c s.data.toList
  have hc : s.data.toList.count c ≤ s.size := by have := List.count_le_length (a := c) (l := s.data.toList); rw [Array.length_toList] at this; exact this
  have hrow := row_new w 9 ((spl c s.data.toList).map fun p => Value.string ⟨p.toArray⟩) (by rw [List.length_map]; unfold maxLen; omega)
  rw [List.length_map] at hrow
  refine ⟨_, rfl, (Below.refl _ w).alloc (Nat.le_refl _) _, row_gl (e := 9) hS (us := (spl c s.data.toList).map fun p => Value.string ⟨p.toArray⟩) (by rw [ss_len]; exact hrow) flat_ss fun i x u hx hu c' hc' S' _ => ?_⟩
  unfold ss at hx
  rw [List.getElem?_map] at hx hu
  cases hh : (spl c s.data.toList)[i]? with
  | none => rw [hh] at hx; cases hx
  | some n =>
    rw [hh] at hx hu
    simp at hx hu; subst hx hu
    simp [T.cells] at hc'; subst hc'
    exact .str _
/-- the byte that a text of one byte has -/
def sep1 (u : ByteArray) : UInt8 := u.data.toList.headD 0
open Classical in
noncomputable def c40 : List T → Ans
  | [.str s, .str u, .int .i64 a, .int .i64 b] => .gl (s.size ≤ 1048576 ∧ u = ⟨#[sep1 u]⟩ ∧ a = 0 ∧ b = -1) 1 (ss (spl (sep1 u) s.data.toList))
  | _ => .no
theorem got40 {vs : List T} {x : T} (h : Got (c40 vs) x) : FnOk Tryd.prog tgl 40 vs x := by
  unfold c40 at h
  split at h
  · exact (got_gl h).elim
  · exact (got_no h).elim
theorem gl40 (vs : List T) (p : Prop) (d : Decidable p) (sz : Nat) (xs : List T) (h : c40 vs = @Ans.gl p d sz xs) (hp : p) : FnGl Tryd.prog tgl 40 vs sz xs := by
  unfold c40 at h
  split at h
  · rename_i s u a b
    cases h
    obtain ⟨h1, h2, rfl, rfl⟩ := hp
    have := gl40_ok s (sep1 u) h1
    rw [← h2] at this
    exact this
  · cases h
theorem pk40 (vs : List T) (p : Prop) (d : Decidable p) (x : T) (h : c40 vs = @Ans.pk p d x) (hp : p) : FnOk Tryd.prog tgl 40 vs x := by
  unfold c40 at h
  split at h <;> cases h
/-- what strconv.Atoi answers -/
def atoiA (s : ByteArray) : T := match Lib.atoiAll s.data.toList with
  | .ok n => .tup [.int .i64 n, .nilif]
  | .range => .tup [.int .i64 (Lib.atoiSat s.data.toList), .ifc 79 (.ref [.str ⟨#[65, 116, 111, 105]⟩, .str s, errR])]
  | _ => .tup [.int .i64 0, .ifc 79 (.ref [.str ⟨#[65, 116, 111, 105]⟩, .str s, errS])]
theorem okA (s : ByteArray) (hs : s.size ≤ 281474976710656) : FnOk Tryd.prog tgl 32 [.str s] (atoiA s) := by
  refine ⟨⟨_, Tryd.func32, rfl, by decide⟩, fun S w args hS hgl hsz hrel => ?_⟩
  have hz : args.size = 1 := hsz
  obtain rfl : args = #[.string s] := one_arg hz (by rw [Array.getElem?_eq_getElem (by omega)]; exact congrArg some (RelT.str_of (hrel 0 _ (args[0]'(by omega)) rfl (by simp))))
  unfold atoiA
  cases h : Lib.atoiAll s.data.toList with
  | ok n =>
    refine (Any.strconv_Atoi_ok Tryd.laysC172 s (by omega) n h w).mono ?_
    rintro e W' ⟨rfl, hw⟩
    have hb : Below w.heap.size w W' := by
      rcases hw with rfl | ⟨t, rfl⟩
      · exact Below.refl _ _
      · exact below_bytes w _ _
    refine ⟨_, rfl, .tup _ _ rfl fun i c v hc hv => ?_, hb⟩
    match i with
    | 0 => simp at hc hv; subst hc hv; exact .int _ _
    | 1 => simp at hc hv; subst hc hv; exact .nilif
    | i + 2 => simp at hc
  | range =>
    obtain ⟨h1, ev, h2, h3⟩ := hgl 2 _ rfl 0 _ rfl
    have hev : ev = .nilIface ∨ ∃ te pe, ev = .iface te pe := by cases h3; exact .inr ⟨_, _, rfl⟩
    refine (Any.strconv_Atoi_range Tryd.laysC172 s (by omega) h ev w h2 hev).mono ?_
    rintro e W' ⟨N, rfl, hN, hc0, hb⟩
    have hNs : N < W'.heap.size := (Array.getElem?_eq_some_iff.1 hc0).1
    refine ⟨_, rfl, .tup _ _ rfl fun i c v hc hv => ?_, hb⟩
    match i with
    | 0 => simp at hc hv; subst hc hv; exact .int _ _
    | 1 =>
      simp at hc hv; subst hc hv
      refine .ifc _ _ _ (.ref _ N 0 (fun i => match i with | 0 => .string ⟨#[65, 116, 111, 105]⟩ | 1 => .string s | _ => ev) (fun i hi => ?_) fun i c hc => ?_)
      · refine ⟨.inr ⟨hN, hNs⟩, ?_⟩
        match i with
        | 0 => simp [World.cell?, hc0]
        | 1 => simp [World.cell?, hc0]
        | 2 => simp [World.cell?, hc0]
        | i + 3 => simp at hi; omega
      · match i with
        | 0 => simp at hc; subst hc; exact .str _
        | 1 => simp at hc; subst hc; exact .str _
        | 2 => simp at hc; subst hc; exact h3.mono (fun _ _ h => .inl h) fun b o h => hb.cell (p := ⟨b, o, none⟩) (hS _ _ h)
        | i + 3 => simp at hc
    | i + 2 => simp at hc
  | _ =>
    obtain ⟨h1, ev, h2, h3⟩ := hgl 1 _ rfl 0 _ rfl
    have hev : ev = .nilIface ∨ ∃ te pe, ev = .iface te pe := by cases h3; exact .inr ⟨_, _, rfl⟩
    refine (Any.strconv_Atoi_syntax Tryd.laysC172 s (by omega) h ev w h2 hev).mono ?_
    rintro e W' ⟨N, rfl, hN, hc0, hb⟩
    have hNs : N < W'.heap.size := (Array.getElem?_eq_some_iff.1 hc0).1
    refine ⟨_, rfl, .tup _ _ rfl fun i c v hc hv => ?_, hb⟩
    match i with
    | 0 => simp at hc hv; subst hc hv; exact .int _ _
    | 1 =>
      simp at hc hv; subst hc hv
      refine .ifc _ _ _ (.ref _ N 0 (fun i => match i with | 0 => .string ⟨#[65, 116, 111, 105]⟩ | 1 => .string s | _ => ev) (fun i hi => ?_) fun i c hc => ?_)
      · refine ⟨.inr ⟨hN, hNs⟩, ?_⟩
        match i with
        | 0 => simp [World.cell?, hc0]
        | 1 => simp [World.cell?, hc0]
        | 2 => simp [World.cell?, hc0]
        | i + 3 => simp at hi; omega
      · match i with
        | 0 => simp at hc; subst hc; exact .str _
        | 1 => simp at hc; subst hc; exact .str _
        | 2 => simp at hc; subst hc; exact h3.mono (fun _ _ h => .inl h) fun b o h => hb.cell (p := ⟨b, o, none⟩) (hS _ _ h)
        | i + 3 => simp at hc
    | i + 2 => simp at hc
theorem atoiA_eq (s : ByteArray) : ∃ x, atoiA s = .tup [.int .i64 (atoiN s.data.toList), x] := by
  unfold atoiA atoiN
  cases Lib.atoiAll s.data.toList <;> exact ⟨_, rfl⟩
end Go.Nx
