/-
  THE DOCUMENT's DIGITS: straight from the model.
-/
import Derived.Test.YtpmpkcjcjccboaaDoorSd
import Derived.Laws.IdiomStrings
set_option linter.unusedVariables false
set_option linter.unusedSimpArgs false
namespace Go.Nx
open Go Go.RowKit Go.Shelf Go.Proofs

attribute [local go_sem] Oper.semAt_some
theorem dig1 : ∀ k : Nat, k < 10 → dig (k : Int) = ⟨#[(48 + k).toUInt8]⟩ := by decide +kernel
theorem dig2 : ∀ k : Nat, k < 100 → 9 < k → dig (k : Int) = ⟨#[(48 + k / 10).toUInt8, (48 + k % 10).toUInt8]⟩ := by decide +kernel
theorem conv1 (W : World) (x : Int) (c : UInt8) (hx : x = (c.toNat : Int)) : Sem.run Tryd.prog (convert 69 9 (.slice (some ⟨W.heap.size, 0, none⟩) 1 1)) (W.alloc (.cells #[.int .u8 x] 5)) = .ok (.string ⟨#[c]⟩) (W.alloc (.cells #[.int .u8 x] 5)) := by
  subst hx
  refine run_convert_bytes_back _ 69 9 5 ⟨W.heap.size, 0, none⟩ 1 [c] Tryd.underlying69 Tryd.underlying5 Tryd.underlying9 fun j hj => ?_
  obtain rfl : j = 0 := by simp at hj; omega
  exact cell_one_new W (.int .u8 (c.toNat : Int)) 5 0 _ rfl
theorem byte_add {k : Nat} (h : k < 10) : 48 + UInt8.ofNat k = (48 + k).toUInt8 := by
  have : ∀ k : Nat, k < 10 → 48 + UInt8.ofNat k = (48 + k).toUInt8 := by decide +kernel
  exact this k h
theorem chr {k : Nat} (h : k < 10) : (48 + k : Int) = (((48 + k).toUInt8).toNat : Int) := by
  have : ∀ k : Nat, k < 10 → (48 + k : Int) = (((48 + k).toUInt8).toNat : Int) := by decide +kernel
  exact this k h
set_option maxRecDepth 100000 in
set_option maxHeartbeats 1000000 in
theorem Digits_in (d : Nat) (n : Nat) (h : n < 100) (w : World) :
    CallsIn Fence.wide d Tryd.prog 39 #[.int .u64 n] w fun e w' => e = .returned (.string (dig n)) ∧ Below w.heap.size w w' := by
  refine callsIn_of_wp Tryd.func39 rfl trivial ?_ rfl
  simp only [Tryd.ntmps39, List.size_toArray, List.length_cons, List.length_nil, Nat.reduceAdd, Nat.reduceSub, Array.replicate_succ, Array.replicate_zero, List.push_toArray, List.append_toArray, List.nil_append, List.cons_append]
  gi_wp2
  gi_loopw [0, 3] (fun a b wr => ∃ (m : Nat) (s : ByteArray), a = .int .u64 (m : Int) ∧ b = .string s ∧ m < 100 ∧ Below w.heap.size w wr ∧ (s = ⟨#[]⟩ ∧ m = n ∨ 9 < n ∧ m = n / 10 ∧ s = ⟨#[(48 + n % 10).toUInt8]⟩)) (fun a _ _ => match a with | .int _ m => m.toNat | _ => 0)
  case atStart =>
    exact ⟨n, ⟨#[]⟩, rfl, rfl, h, Below.refl _ _, .inl ⟨rfl, rfl⟩⟩
  case round =>
    obtain ⟨m, s, rfl, rfl, h2, hb, hs⟩ := hrel
    by_cases h9 : 9 < (m : Int)
    · obtain ⟨rfl, rfl⟩ : s = ⟨#[]⟩ ∧ m = n := by
        rcases hs with hs | ⟨_, hs, _⟩
        · exact hs
        · omega
      have hcv := conv1 wr (48 + (m : Int) % 10) ((48 + m % 10).toUInt8) (by have := chr (k := m % 10) (by omega); omega)
      gi_wp2
      refine ⟨⟨m / 10, ⟨#[(48 + m % 10).toUInt8]⟩, by rw [Int.natCast_ediv]; rfl, by rw [byte_add (by omega)]; rfl, by omega, hb.trans ((Below.refl _ wr).alloc hb.size _), .inr ⟨by omega, rfl, rfl⟩⟩, ?_⟩
      show ((m : Int) / 10).toNat < ((m : Int)).toNat
      omega
    · have hcv := conv1 wr (48 + (m : Int)) ((48 + m).toUInt8) (chr (by omega))
      rcases hs with ⟨rfl, rfl⟩ | ⟨h10, hm, rfl⟩
      · gi_wp2
        go_ret
        refine ⟨?_, hb.trans ((Below.refl _ wr).alloc hb.size _)⟩
        rw [dig1 m (by omega), ← byte_add (by omega)]
        rfl
      · have hm' := hm.symm
        clear hm
        gi_wp2
        go_ret
        refine ⟨?_, hb.trans ((Below.refl _ wr).alloc hb.size _)⟩
        rw [dig2 n h h10, ← byte_add (k := n % 10) (by omega), ← byte_add (k := n / 10) (by omega), hm']
        rfl
end Go.Nx
