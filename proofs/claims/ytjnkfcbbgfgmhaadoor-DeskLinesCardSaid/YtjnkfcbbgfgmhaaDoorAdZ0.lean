import Derived.Test.YtjnkfcbbgfgmhaaDoorAdTyA
set_option linter.unusedSimpArgs false
set_option linter.unusedVariables false
namespace Go.Ab
open Go Go.Ab Go.Proofs
abbrev D.int (n : Int) : D := .v (.int .i64 n)
abbrev D.bool (b : Bool) : D := .v (.bool b)
abbrev D.byte (b : UInt8) : D := .v (.int .u8 b.toNat)
abbrev texts (l : List (List UInt8)) : D := .sl 1 false (l.map D.str)
set_option maxRecDepth 100000
structure Stk where
  t : Int
  q : Int
  deriving DecidableEq
def Stk.enc (s : Stk) : D := .agg [.v (.int .i64 s.t), .v (.int .i64 s.q)]
def encS (l : List Stk) : D := .sl 2 false (l.map Stk.enc)
theorem same_spec (H) (a b : List Stk) : Spec Tryd.prog 27 [encS a, encS b] H (Ret [.v (.bool (decide (a = b)))] H) := by
  refine Spec.of [] Tryd.func27 rfl (by kernel_rfl) ?_
  simp -implicitDefEqProofs only [encS, go_sem, vc_cond, Tryd.results27, Nat.reduceEqDiff, Nat.reduceAdd]
  intro ha hb
  refine ⟨fun h => ?_, fun h => ?_⟩
  · have : a ≠ b := fun e => by subst e; exact h rfl
    simp [this]
  ·
    have hl : a.length = b.length := by simpa using h
    refine loop_of (fun (k : Nat) => { env := [(0, .d (encS a)), (1, .d (encS b)), (4, .d (.v (.bool false))), (5, .d (.v (.int .i64 k)))], L := [], H := H }) (fun k => k ≤ a.length ∧ a.take k = b.take k) (fun k => a.length - k) 0 ⟨by simp, by simp⟩
      (imp_le (by simp -implicitDefEqProofs only [encS, go_sem, vc_cond, Nat.reduceEqDiff, Nat.reduceAdd]; try simp)) fun k hk => ?_
    obtain ⟨hk, ht⟩ := hk
    simp -implicitDefEqProofs only [encS, go_sem, vc_cond, Tryd.results27, Nat.reduceEqDiff, Nat.reduceAdd]
    intro _ _
    refine ⟨fun h => ?_, fun h => ?_⟩
    · refine draw_of 9 [] (by kernel_rfl) ?_
      simp -implicitDefEqProofs only [encS, Stk.enc, go_sem, vc_cond, h, Tryd.results27, Nat.reduceEqDiff, Nat.reduceAdd, Nat.reduceLeDiff]
      refine ⟨fun hf => ?_, fun hf => ?_⟩
      · have : a ≠ b := fun e => by subst e; simp at hf
        simp [this]
      · refine ⟨k + 1, ⟨by omega, ?_⟩, by omega, ?_⟩
        · rw [List.take_succ_eq_append_getElem h.1, List.take_succ_eq_append_getElem h.2, ht]
          congr 2
          cases ha : a[k]; cases hb : b[k]; simp_all
        · rw [wrap_i64 (by omega) (by omega)]; simp
    · have hk' : ¬ k < a.length := by intro e; simp [e] at h; omega
      have : a = b := by rw [List.take_of_length_le (by omega), List.take_of_length_le (by omega)] at ht; exact ht
      simp [this]
end Go.Ab
