import Derived.Test.YtjnkfcbbgfgmhaaDoorAdZ2
set_option linter.unusedSimpArgs false
set_option linter.unusedVariables false
namespace Go.Ab
open Go Go.Ab Go.Proofs
set_option maxRecDepth 100000

abbrev D.slc (k n : Nat) : D := .v (.slice (some ⟨k, 0, none⟩) n n)
theorem all28H_spec (H : Hp) (c : Cmd) : Spec Tryd.prog 26 [c.enc] H (fun rs H' => ∃ k, H k = none ∧ rs = [D.slc k 19] ∧ H' = upd H k (.cells (c.nums.map D.int))) := by
  refine Spec.ofR [41] Tryd.func26 rfl (by kernel_rfl) ?_
  simp (maxSteps := 4000000) -implicitDefEqProofs only [go_sem, vc_cond, Tryd.results26, Nat.reduceEqDiff, Nat.reduceAdd, Nat.reduceLeDiff, Nat.reduceLT, Nat.reduceMul, Nat.reduceSub, List.reduceReplicate, Int.reduceToNat, Int.reduceLT, Int.reduceLE, Int.reduceEq, Int.reduceAdd, Int.reduceSub, Int.reduceMul, Int.reduceNeg, Nat.zero_add]
  intro k hk
  refine ⟨[D.slc k 19], _, ?_, subH.refl _, k, hk, rfl, rfl⟩
  simp (maxSteps := 4000000) -implicitDefEqProofs only [go_sem, vc_cond, Tryd.results26, Nat.reduceEqDiff, Nat.reduceAdd, Nat.reduceLeDiff, Nat.reduceLT, Nat.reduceMul, Nat.reduceSub, List.reduceReplicate, Int.reduceToNat, Int.reduceLT, Int.reduceLE, Int.reduceEq, Int.reduceAdd, Int.reduceSub, Int.reduceMul, Int.reduceNeg, Nat.zero_add]

def cells19 (f : Nat → Int) : List D := [D.int (f 0), D.int (f 1), D.int (f 2), D.int (f 3), D.int (f 4), D.int (f 5), D.int (f 6), D.int (f 7), D.int (f 8), D.int (f 9),
  D.int (f 10), D.int (f 11), D.int (f 12), D.int (f 13), D.int (f 14), D.int (f 15), D.int (f 16), D.int (f 17), D.int (f 18)]
theorem cells19_set (f : Nat → Int) (p : Nat) (n : Int) (hp : p < 19) : (cells19 f).take p ++ [D.int n] ++ (cells19 f).drop (p + 1) = cells19 (fun i => if i = p then n else f i) := by
  have : p = 0 ∨ p = 1 ∨ p = 2 ∨ p = 3 ∨ p = 4 ∨ p = 5 ∨ p = 6 ∨ p = 7 ∨ p = 8 ∨ p = 9 ∨ p = 10 ∨ p = 11 ∨ p = 12 ∨ p = 13 ∨ p = 14 ∨ p = 15 ∨ p = 16 ∨ p = 17 ∨ p = 18 := by omega
  rcases this with rfl | rfl | rfl | rfl | rfl | rfl | rfl | rfl | rfl | rfl | rfl | rfl | rfl | rfl | rfl | rfl | rfl | rfl | rfl <;> rfl
def Cmd.zero : Cmd := ⟨0, fun _ => 0, [], []⟩
/-- The command with another number; the zero command where there is none such. -/
def Cmd.setN (c : Cmd) (s : List UInt8) (n : Int) : Cmd × Bool :=
  match posOf s nameList with
  | some p => ({ c with num := fun i => if i = p then n else c.num i }, true)
  | none => (.zero, false)
end Go.Ab
