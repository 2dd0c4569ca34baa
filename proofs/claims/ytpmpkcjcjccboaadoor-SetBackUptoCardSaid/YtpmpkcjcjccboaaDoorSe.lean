/-
  WHAT THE LIBRARY'S TEXTS AND set.Text ANSWER.
-/
import Derived.Test.YtpmpkcjcjccboaaDoorSd
set_option linter.unusedVariables false
set_option linter.unusedSimpArgs false
namespace Go.Nx
open Go Go.RowKit Go.Shelf Go.Proofs

theorem one_arg {args : Array Value} (h : args.size = 1) {v : Value} (hv : args[0]? = some v) : args = #[v] := by
  apply Array.ext
  · simpa using h
  · intro i h1 h2
    have : i = 0 := by simp at h2; omega
    subst this
    rw [Array.getElem?_eq_getElem (by omega)] at hv
    simpa using hv
theorem two_arg {args : Array Value} (h : args.size = 2) {u v : Value} (hu : args[0]? = some u) (hv : args[1]? = some v) : args = #[u, v] := by
  apply Array.ext
  · simpa using h
  · intro i h1 h2
    match i with
    | 0 => rw [Array.getElem?_eq_getElem (by omega)] at hu; simpa using hu
    | 1 => rw [Array.getElem?_eq_getElem (by omega)] at hv; simpa using hv
    | i + 2 => simp at h2; omega
theorem okTxt (s : Int) (hs : R64 s) : FnOk Tryd.prog tgl 29 [.int .u64 s] (.str (txt (bv s))) := by
  refine ⟨⟨_, Tryd.func29, rfl, by decide⟩, fun S w args hS hgl hsz hrel => ?_⟩
  have hz : args.size = 1 := hsz
  obtain rfl : args = #[.int .u64 s] := one_arg hz (by rw [Array.getElem?_eq_getElem (by omega)]; exact congrArg some (RelT.int_of (hrel 0 _ (args[0]'(by omega)) rfl (by simp))))
  refine ((callsIn_wide (n := 3)).1 (Text_in 3 (Nat.le_refl _) s hs w (glAt_of hS hgl))).mono ?_
  rintro e W' ⟨rfl, hb⟩
  exact ⟨_, rfl, .str _, hb⟩
theorem okCnt (s : ByteArray) (c : UInt8) : FnOk Tryd.prog tgl 50 [.str s, .str ⟨#[c]⟩] (.int .i64 (Lib.countByte s.data.toList c)) := by
  refine ⟨⟨_, Tryd.func50, rfl, by decide⟩, fun S w args hS hgl hsz hrel => ?_⟩
  have hz : args.size = 2 := hsz
  obtain rfl : args = #[.string s, .string ⟨#[c]⟩] := two_arg hz (by rw [Array.getElem?_eq_getElem (by omega)]; exact congrArg some (RelT.str_of (hrel 0 _ (args[0]'(by omega)) rfl (by simp))))
    (by rw [Array.getElem?_eq_getElem (by omega)]; exact congrArg some (RelT.str_of (hrel 1 _ (args[1]'(by omega)) rfl (by simp))))
  refine (Tryd.strings_Count_one s c w).mono ?_
  rintro e W' ⟨rfl, rfl⟩
  exact ⟨_, rfl, .int _ _, Below.refl _ _⟩
theorem okIdx (s : ByteArray) (c : UInt8) : FnOk Tryd.prog tgl 51 [.str s, .str ⟨#[c]⟩] (.int .i64 (Lib.indexByte s.data.toList c)) := by
  refine ⟨⟨_, Tryd.func51, rfl, by decide⟩, fun S w args hS hgl hsz hrel => ?_⟩
  have hz : args.size = 2 := hsz
  obtain rfl : args = #[.string s, .string ⟨#[c]⟩] := two_arg hz (by rw [Array.getElem?_eq_getElem (by omega)]; exact congrArg some (RelT.str_of (hrel 0 _ (args[0]'(by omega)) rfl (by simp))))
    (by rw [Array.getElem?_eq_getElem (by omega)]; exact congrArg some (RelT.str_of (hrel 1 _ (args[1]'(by omega)) rfl (by simp))))
  refine (Tryd.strings_Index_one s c w).mono ?_
  rintro e W' ⟨rfl, rfl⟩
  exact ⟨_, rfl, .int _ _, Below.refl _ _⟩
theorem below_bytes (w : World) (e : TypeId) (t : ByteArray) : Below w.heap.size w (Lib.bytesWorld w e t) :=
  ⟨rfl, rfl, rfl, by rw [Lib.bytesWorld_size]; omega, fun j hj => Lib.bytesWorld_at_old w e t j hj⟩
/-- what strconv.Atoi answers -/
def atoiT (s : ByteArray) : T := match Lib.atoi s.data.toList with
  | some n => .tup [.int .i64 n, .nilif]
  | none => .tup [.int .i64 0, .ifc 79 (.ref [.str ⟨#[65, 116, 111, 105]⟩, .str s, errS])]
theorem okA18 (s : ByteArray) (hs : s.size ≤ 18) : FnOk Tryd.prog tgl 32 [.str s] (atoiT s) := by
  refine ⟨⟨_, Tryd.func32, rfl, by decide⟩, fun S w args hS hgl hsz hrel => ?_⟩
  have hz : args.size = 1 := hsz
  obtain rfl : args = #[.string s] := one_arg hz (by rw [Array.getElem?_eq_getElem (by omega)]; exact congrArg some (RelT.str_of (hrel 0 _ (args[0]'(by omega)) rfl (by simp))))
  unfold atoiT
  cases h : Lib.atoi s.data.toList with
  | some n =>
    refine (Tryd.strconv_Atoi s n hs h w).mono ?_
    rintro e W' ⟨rfl, t, rfl⟩
    refine ⟨_, rfl, .tup _ _ rfl fun i c v hc hv => ?_, below_bytes w _ _⟩
    match i with
    | 0 => simp at hc hv; subst hc hv; exact .int _ _
    | 1 => simp at hc hv; subst hc hv; exact .nilif
    | i + 2 => simp at hc
  | none =>
    obtain ⟨h1, ev, h2, h3⟩ := hgl 1 _ rfl 0 _ rfl
    have hev : ev = .nilIface ∨ ∃ te pe, ev = .iface te pe := by cases h3; exact .inr ⟨_, _, rfl⟩
    refine (Tryd.strconv_Atoi_err s hs h ev w h2 hev).mono ?_
    rintro e W' ⟨N, rfl, hN, hc0, hb⟩
    have hNs : N < W'.heap.size := (Array.getElem?_eq_some_iff.1 hc0).1
    refine ⟨_, rfl, .tup _ _ rfl fun i c v hc hv => ?_, hb⟩
    match i with
    | 0 => simp at hc hv; subst hc hv; exact .int _ _
    | 1 =>
      simp at hc hv; subst hc hv
      refine .ifc _ _ _ (.ref _ N 0 (fun i => match i with | 0 => .string ⟨#[65, 116, 111, 105]⟩ | 1 => .string s | _ => ev) (fun i hi => ?_) fun i c hc => ?_)
      · refine ⟨.inr ⟨hN, hNs⟩, ?_⟩
        match i with
        | 0 => simp [World.cell?, hc0]
        | 1 => simp [World.cell?, hc0]
        | 2 => simp [World.cell?, hc0]
        | i + 3 => simp at hi; omega
      · match i with
        | 0 => simp at hc; subst hc; exact .str _
        | 1 => simp at hc; subst hc; exact .str _
        | 2 => simp at hc; subst hc; exact h3.mono (fun _ _ h => .inl h) fun b o h => hb.cell (p := ⟨b, o, none⟩) (hS _ _ h)
        | i + 3 => simp at hc
    | i + 2 => simp at hc
end Go.Nx
