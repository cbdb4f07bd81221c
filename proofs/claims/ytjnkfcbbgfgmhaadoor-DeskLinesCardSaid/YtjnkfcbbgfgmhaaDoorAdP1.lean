import Derived.Test.YtjnkfcbbgfgmhaaDoorAdP
set_option linter.unusedSimpArgs false
set_option linter.unusedVariables false
namespace Go.Ab
open Go Go.Ab Go.Proofs
set_option maxRecDepth 100000
@[go_sem] def Cmd.boxed (c : Cmd) : List V := [.d (D.int c.kind), .d (D.int (c.num 0)), .d (D.int (c.num 1)), .d (D.int (c.num 2)), .d (D.int (c.num 3)), .d (D.int (c.num 4)), .d (D.int (c.num 5)), .d (D.int (c.num 6)), .d (D.int (c.num 7)), .d (D.int (c.num 8)), .d (D.int (c.num 9)),
  .d (D.int (c.num 10)), .d (D.int (c.num 11)), .d (D.int (c.num 12)), .d (D.int (c.num 13)), .d (D.int (c.num 14)), .d (D.int (c.num 15)), .d (D.int (c.num 16)), .d (D.int (c.num 17)), .d (D.int (c.num 18)), .d (encS c.gives), .d (encS c.wants)]
/-- What 'Parse' answers. -/
def parseRes (o : Option Cmd) : List D := match o with | some c => [c.enc, D.int 0] | none => [Cmd.zero.enc, D.int 2]
theorem wordsOf_len (l : List UInt8) : (wordsOf l).length ≤ l.length + 1 := by
  refine Nat.le_trans (List.length_filter_le _ _) (splitAcc_len 32 l [])
theorem splitAcc_mem (b : UInt8) : ∀ (l p : List UInt8), ∀ w ∈ splitAcc b p l, w.length ≤ p.length + l.length
  | [], p, w, h => by simp [splitAcc] at h; subst h; simp
  | x :: r, p, w, h => by
    rw [splitAcc] at h
    split at h
    · rcases List.mem_cons.1 h with rfl | h
      · simp
      · have := splitAcc_mem b r [] w h
        simp at this ⊢; omega
    · have := splitAcc_mem b r _ w h
      simp at this ⊢; omega
theorem wordsOf_mem {l w : List UInt8} (h : w ∈ wordsOf l) : w.length ≤ l.length := by
  have := splitAcc_mem 32 l [] w ((List.mem_filter.1 (show w ∈ (splitAcc 32 [] l).filter ne0 from h)).1)
  simpa using this
theorem cutAt_len (b : UInt8) : ∀ (l : List UInt8), (cutAt b l).1.length + (cutAt b l).2.1.length ≤ l.length
  | [] => by simp [cutAt]
  | x :: r => by
    rw [cutAt]
    have := cutAt_len b r
    split <;> simp <;> omega
theorem zero_none (H : Hp) : leDs [.agg [.v (.int .i64 0), .v (.int .i64 0), .v (.int .i64 0), .v (.int .i64 0), .v (.int .i64 0), .v (.int .i64 0), .v (.int .i64 0), .v (.int .i64 0), .v (.int .i64 0), .v (.int .i64 0), .v (.int .i64 0),
  .v (.int .i64 0), .v (.int .i64 0), .v (.int .i64 0), .v (.int .i64 0), .v (.int .i64 0), .v (.int .i64 0), .v (.int .i64 0), .v (.int .i64 0), .v (.int .i64 0), .sl 0 true [], .sl 0 true []], .v (.int .i64 2)] (parseRes none) := by
  simp (maxSteps := 4000000) -implicitDefEqProofs only [go_sem, vc_cond, Nat.reduceEqDiff, Nat.reduceAdd, Nat.reduceLeDiff, Nat.reduceLT, Nat.reduceMul, Nat.reduceSub, List.reduceReplicate, Int.reduceToNat, Int.reduceLT, Int.reduceLE, Int.reduceEq, Int.reduceAdd, Int.reduceSub, Int.reduceMul, Int.reduceNeg, Nat.zero_add, parseRes, Cmd.zero, encS]
end Go.Ab
