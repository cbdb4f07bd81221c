import Derived.Test.YtjnkfcbbgfgmhaaGreatDoorAbZ2
set_option linter.unusedSimpArgs false
set_option linter.unusedVariables false
namespace Go.Ab
open Go Go.Ab Go.Proofs
set_option maxRecDepth 100000

abbrev D.slc (k n : Nat) : D := .v (.slice (some ⟨k, 0, none⟩) n n)
theorem all28H_spec (H : Hp) (c : Cmd) : Spec Tryz.prog 29 [c.enc] H (fun rs H' => ∃ k, H k = none ∧ rs = [D.slc k 19] ∧ H' = upd H k (.cells (c.nums.map D.int))) := by
  refine Spec.ofR [41] Tryz.func29 rfl (by kernel_rfl) ?_
  simp (maxSteps := 4000000) -implicitDefEqProofs only [go_sem, vc_cond, Tryz.results29, Nat.reduceEqDiff, Nat.reduceAdd, Nat.reduceLeDiff, Nat.reduceLT, Nat.reduceMul, Nat.reduceSub, List.reduceReplicate, Int.reduceToNat, Int.reduceLT, Int.reduceLE, Int.reduceEq, Int.reduceAdd, Int.reduceSub, Int.reduceMul, Int.reduceNeg, Nat.zero_add]
  intro k hk
  refine ⟨[D.slc k 19], _, ?_, subH.refl _, k, hk, rfl, rfl⟩
  simp (maxSteps := 4000000) -implicitDefEqProofs only [go_sem, vc_cond, Tryz.results29, Nat.reduceEqDiff, Nat.reduceAdd, Nat.reduceLeDiff, Nat.reduceLT, Nat.reduceMul, Nat.reduceSub, List.reduceReplicate, Int.reduceToNat, Int.reduceLT, Int.reduceLE, Int.reduceEq, Int.reduceAdd, Int.reduceSub, Int.reduceMul, Int.reduceNeg, Nat.zero_add]

def cells19 (f : Nat → Int) : List D := [D.int (f 0), D.int (f 1), D.int (f 2), D.int (f 3), D.int (f 4), D.int (f 5), D.int (f 6), D.int (f 7), D.int (f 8), D.int (f 9),
  D.int (f 10), D.int (f 11), D.int (f 12), D.int (f 13), D.int (f 14), D.int (f 15), D.int (f 16), D.int (f 17), D.int (f 18)]
theorem of28_spec (H : Hp) (c : Cmd) (k : Nat) (f : Nat → Int) (hk : H k = some (.cells (cells19 f))) : Spec Tryz.prog 42 [c.enc, D.slc k 19] H (Ret [Cmd.enc { c with num := f }] H) := by
  refine Spec.of [] Tryz.func42 rfl (by kernel_rfl) ?_
  simp (maxSteps := 4000000) -implicitDefEqProofs only [go_sem, vc_cond, Tryz.results42, Nat.reduceEqDiff, Nat.reduceAdd, Nat.reduceLeDiff, Nat.reduceLT, Nat.reduceMul, Nat.reduceSub, List.reduceReplicate, Int.reduceToNat, Int.reduceLT, Int.reduceLE, Int.reduceEq, Int.reduceAdd, Int.reduceSub, Int.reduceMul, Int.reduceNeg, Nat.zero_add]
  refine draw_of 64 [] (by kernel_rfl) ?_
  unfold cells19 at hk
  simp (maxSteps := 4000000) -implicitDefEqProofs only [go_sem, vc_cond, Tryz.results42, Nat.reduceEqDiff, Nat.reduceAdd, Nat.reduceLeDiff, Nat.reduceLT, Nat.reduceMul, Nat.reduceSub, List.reduceReplicate, Int.reduceToNat, Int.reduceLT, Int.reduceLE, Int.reduceEq, Int.reduceAdd, Int.reduceSub, Int.reduceMul, Int.reduceNeg, Nat.zero_add, hk, encS]

theorem cells19_set (f : Nat → Int) (p : Nat) (n : Int) (hp : p < 19) : (cells19 f).take p ++ [D.int n] ++ (cells19 f).drop (p + 1) = cells19 (fun i => if i = p then n else f i) := by
  have : p = 0 ∨ p = 1 ∨ p = 2 ∨ p = 3 ∨ p = 4 ∨ p = 5 ∨ p = 6 ∨ p = 7 ∨ p = 8 ∨ p = 9 ∨ p = 10 ∨ p = 11 ∨ p = 12 ∨ p = 13 ∨ p = 14 ∨ p = 15 ∨ p = 16 ∨ p = 17 ∨ p = 18 := by omega
  rcases this with rfl | rfl | rfl | rfl | rfl | rfl | rfl | rfl | rfl | rfl | rfl | rfl | rfl | rfl | rfl | rfl | rfl | rfl | rfl <;> rfl
def Cmd.zero : Cmd := ⟨0, fun _ => 0, [], []⟩
/-- The command with another number; the zero command where there is none such. -/
def Cmd.setN (c : Cmd) (s : List UInt8) (n : Int) : Cmd × Bool :=
  match posOf s nameList with
  | some p => ({ c with num := fun i => if i = p then n else c.num i }, true)
  | none => (.zero, false)
theorem rset_spec (H : Hp) (c : Cmd) (s : List UInt8) (n : Int) : Spec Tryz.prog 23 [c.enc, D.str s, D.int n] H (Ret [(c.setN s n).1.enc, D.bool (c.setN s n).2] H) := by
  refine Spec.of [] Tryz.func23 rfl (by kernel_rfl) ?_
  simp (maxSteps := 4000000) -implicitDefEqProofs only [go_sem, vc_cond, Tryz.results23, Nat.reduceEqDiff, Nat.reduceAdd, Nat.reduceLeDiff, Nat.reduceLT, Nat.reduceMul, Nat.reduceSub, List.reduceReplicate, Int.reduceToNat, Int.reduceLT, Int.reduceLE, Int.reduceEq, Int.reduceAdd, Int.reduceSub, Int.reduceMul, Int.reduceNeg, Nat.zero_add, encS]
  refine call_of (place28_spec H s) (by simp (maxSteps := 4000000) -implicitDefEqProofs only [go_sem, vc_cond, Nat.reduceEqDiff, Nat.reduceAdd, Nat.reduceLeDiff, Nat.reduceLT, Nat.reduceMul, Nat.reduceSub, List.reduceReplicate, Int.reduceToNat, Int.reduceLT, Int.reduceLE, Int.reduceEq, Int.reduceAdd, Int.reduceSub, Int.reduceMul, Int.reduceNeg, Nat.zero_add]) ?_
  unfold Cmd.setN
  cases hp : posOf s nameList with
  | none =>
    simp (maxSteps := 4000000) -implicitDefEqProofs only [go_sem, vc_cond, Tryz.results23, Nat.reduceEqDiff, Nat.reduceAdd, Nat.reduceLeDiff, Nat.reduceLT, Nat.reduceMul, Nat.reduceSub, List.reduceReplicate, Int.reduceToNat, Int.reduceLT, Int.reduceLE, Int.reduceEq, Int.reduceAdd, Int.reduceSub, Int.reduceMul, Int.reduceNeg, Nat.zero_add, posI, Cmd.zero, encS]
  | some p =>
    obtain ⟨hp2, _⟩ := posOf_lt hp
    have hp3 : p < 19 := hp2
    have hp4 : ¬ (p : Int) < 0 := by omega
    simp (maxSteps := 4000000) -implicitDefEqProofs only [go_sem, vc_cond, Tryz.results23, Nat.reduceEqDiff, Nat.reduceAdd, Nat.reduceLeDiff, Nat.reduceLT, Nat.reduceMul, Nat.reduceSub, List.reduceReplicate, Int.reduceToNat, Int.reduceLT, Int.reduceLE, Int.reduceEq, Int.reduceAdd, Int.reduceSub, Int.reduceMul, Int.reduceNeg, Nat.zero_add, posI, hp4]
    refine call_ofR (all28H_spec H c) (by simp (maxSteps := 4000000) -implicitDefEqProofs only [go_sem, vc_cond, Nat.reduceEqDiff, Nat.reduceAdd, Nat.reduceLeDiff, Nat.reduceLT, Nat.reduceMul, Nat.reduceSub, List.reduceReplicate, Int.reduceToNat, Int.reduceLT, Int.reduceLE, Int.reduceEq, Int.reduceAdd, Int.reduceSub, Int.reduceMul, Int.reduceNeg, Nat.zero_add, encS]) ?_
    rintro rs H' ⟨k, hk, rfl, rfl⟩
    have e : c.nums.map D.int = cells19 c.num := rfl
    rw [e]
    simp (maxSteps := 4000000) -implicitDefEqProofs only [go_sem, vc_cond, Tryz.results23, Nat.reduceEqDiff, Nat.reduceAdd, Nat.reduceLeDiff, Nat.reduceLT, Nat.reduceMul, Nat.reduceSub, List.reduceReplicate, Int.reduceToNat, Int.reduceLT, Int.reduceLE, Int.reduceEq, Int.reduceAdd, Int.reduceSub, Int.reduceMul, Int.reduceNeg, Nat.zero_add, encS]
    refine ⟨by omega, by simp only [cells19, List.length_cons, List.length_nil]; omega, ?_⟩
    rw [cells19_set _ _ _ hp3]
    refine call_of (of28_spec _ c k _ (upd_same ..)) (by simp (maxSteps := 4000000) -implicitDefEqProofs only [go_sem, vc_cond, Nat.reduceEqDiff, Nat.reduceAdd, Nat.reduceLeDiff, Nat.reduceLT, Nat.reduceMul, Nat.reduceSub, List.reduceReplicate, Int.reduceToNat, Int.reduceLT, Int.reduceLE, Int.reduceEq, Int.reduceAdd, Int.reduceSub, Int.reduceMul, Int.reduceNeg, Nat.zero_add, encS]) ?_
    simp (maxSteps := 4000000) -implicitDefEqProofs only [go_sem, vc_cond, Tryz.results23, Nat.reduceEqDiff, Nat.reduceAdd, Nat.reduceLeDiff, Nat.reduceLT, Nat.reduceMul, Nat.reduceSub, List.reduceReplicate, Int.reduceToNat, Int.reduceLT, Int.reduceLE, Int.reduceEq, Int.reduceAdd, Int.reduceSub, Int.reduceMul, Int.reduceNeg, Nat.zero_add, encS]
    exact subH_new hk
end Go.Ab
