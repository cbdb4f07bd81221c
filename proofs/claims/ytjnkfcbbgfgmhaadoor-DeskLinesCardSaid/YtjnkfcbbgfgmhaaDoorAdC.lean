import Derived.Test.YtjnkfcbbgfgmhaaDoorAdW
set_option linter.unusedSimpArgs false
set_option linter.unusedVariables false
namespace Go.Ab
open Go Go.Ab Go.Proofs
set_option maxRecDepth 100000
abbrev D.ptr (k off : Nat) : D := .v (.pointer (some ⟨k, off, none⟩))
def fieldPtr (k : Nat) (o : Option Nat) : D := match o with | some p => .v (.pointer (some ⟨k, p + 1, none⟩)) | none => .v (.pointer none)
theorem cfield_spec (H : Hp) (k : Nat) (cs : List D) (s : List UInt8) (hk : H k = some (.cells cs)) (hc : cs.length = 22) : Spec Tryd.prog 31 [D.ptr k 0, D.str s] H (Ret [fieldPtr k (posOf s nameList)] H) := by
  refine Spec.ofL [] Tryd.func31 rfl (by kernel_rfl) ?_
  simp (maxSteps := 4000000) -implicitDefEqProofs only [go_sem, vc_cond, Tryd.results31, Nat.reduceEqDiff, Nat.reduceAdd, Nat.reduceLeDiff, Nat.reduceLT, Nat.reduceMul, Nat.reduceSub, List.reduceReplicate, Int.reduceToNat, Int.reduceLT, Int.reduceLE, Int.reduceEq, Int.reduceAdd, Int.reduceSub, Int.reduceMul, Int.reduceNeg, Nat.zero_add, hk, hc]
  simp only [posOf, nameList]
  repeat' (first | (intro h; (try simp only [@eq_comm _ _ s]); simp only [h, if_true, if_false]) | apply And.intro)
  all_goals rfl
theorem clone_spec (H : Hp) (l : List Stk) (hl : l.length * 16 ≤ 140737488355328) : Spec Tryd.prog 54 [encS l] H (Ret [encS l] H) := by
  refine Spec.ofL [] Tryd.func54 rfl (by kernel_rfl) ?_
  simp (maxSteps := 4000000) -implicitDefEqProofs only [go_sem, vc_cond, Tryd.results54, Nat.reduceEqDiff, Nat.reduceAdd, Nat.reduceLeDiff, Nat.reduceLT, Nat.reduceMul, Nat.reduceSub, List.reduceReplicate, Int.reduceToNat, Int.reduceLT, Int.reduceLE, Int.reduceEq, Int.reduceAdd, Int.reduceSub, Int.reduceMul, Int.reduceNeg, Nat.zero_add, encS]
  exact fun b hb => ⟨hb, fun _ => hl⟩
theorem boxed_get (f : Nat → Int) (x y : D) (p : Nat) (hp : p < 19) : (List.drop p [D.int (f 0), D.int (f 1), D.int (f 2), D.int (f 3), D.int (f 4), D.int (f 5), D.int (f 6), D.int (f 7), D.int (f 8), D.int (f 9),
  D.int (f 10), D.int (f 11), D.int (f 12), D.int (f 13), D.int (f 14), D.int (f 15), D.int (f 16), D.int (f 17), D.int (f 18), x, y]).head? = some (D.int (f p)) := by
  have : p = 0 ∨ p = 1 ∨ p = 2 ∨ p = 3 ∨ p = 4 ∨ p = 5 ∨ p = 6 ∨ p = 7 ∨ p = 8 ∨ p = 9 ∨ p = 10 ∨ p = 11 ∨ p = 12 ∨ p = 13 ∨ p = 14 ∨ p = 15 ∨ p = 16 ∨ p = 17 ∨ p = 18 := by omega
  rcases this with rfl | rfl | rfl | rfl | rfl | rfl | rfl | rfl | rfl | rfl | rfl | rfl | rfl | rfl | rfl | rfl | rfl | rfl | rfl <;> rfl
def getRes (c : Cmd) (o : Option Nat) : List D := match o with | some p => [D.int (c.num p), D.bool true] | none => [D.int 0, D.bool false]
theorem cget_spec (H : Hp) (c : Cmd) (s : List UInt8) : Spec Tryd.prog 13 [c.enc, D.str s] H (Ret (getRes c (posOf s nameList)) H) := by
  refine Spec.ofL [2] Tryd.func13 rfl (by kernel_rfl) ?_
  simp (maxSteps := 4000000) -implicitDefEqProofs only [go_sem, vc_cond, Tryd.results13, Nat.reduceEqDiff, Nat.reduceAdd, Nat.reduceLeDiff, Nat.reduceLT, Nat.reduceMul, Nat.reduceSub, List.reduceReplicate, Int.reduceToNat, Int.reduceLT, Int.reduceLE, Int.reduceEq, Int.reduceAdd, Int.reduceSub, Int.reduceMul, Int.reduceNeg, Nat.zero_add, encS]
  intro k hk
  refine call_of (cfield_spec _ k _ s (upd_same ..) rfl) (by simp (maxSteps := 4000000) -implicitDefEqProofs only [go_sem, vc_cond, Nat.reduceEqDiff, Nat.reduceAdd, Nat.reduceLeDiff, Nat.reduceLT, Nat.reduceMul, Nat.reduceSub, List.reduceReplicate, Int.reduceToNat, Int.reduceLT, Int.reduceLE, Int.reduceEq, Int.reduceAdd, Int.reduceSub, Int.reduceMul, Int.reduceNeg, Nat.zero_add]) ?_
  cases hp0 : posOf s nameList with
  | none =>
    simp (maxSteps := 4000000) -implicitDefEqProofs only [go_sem, vc_condC, Tryd.results13, Nat.reduceEqDiff, Nat.reduceAdd, Nat.reduceLeDiff, Nat.reduceLT, Nat.reduceMul, Nat.reduceSub, List.reduceReplicate, Int.reduceToNat, Int.reduceLT, Int.reduceLE, Int.reduceEq, Int.reduceAdd, Int.reduceSub, Int.reduceMul, Int.reduceNeg, Nat.zero_add, fieldPtr, getRes]
    exact subH_new hk
  | some p =>
    obtain ⟨hp, _⟩ := posOf_lt hp0
    have hp : p < 19 := hp
    have hg := boxed_get c.num (.sl 2 false (c.gives.map Stk.enc)) (.sl 2 false (c.wants.map Stk.enc)) p hp
    simp (maxSteps := 4000000) -implicitDefEqProofs only [go_sem, vc_condC, Tryd.results13, Nat.reduceEqDiff, Nat.reduceAdd, Nat.reduceLeDiff, Nat.reduceLT, Nat.reduceMul, Nat.reduceSub, List.reduceReplicate, Int.reduceToNat, Int.reduceLT, Int.reduceLE, Int.reduceEq, Int.reduceAdd, Int.reduceSub, Int.reduceMul, Int.reduceNeg, Nat.zero_add, fieldPtr, getRes, hg]
    exact subH_new hk
theorem boxed_set (f : Nat → Int) (x y : D) (p : Nat) (n : Int) (hp : p < 19) : List.take p [D.int (f 0), D.int (f 1), D.int (f 2), D.int (f 3), D.int (f 4), D.int (f 5), D.int (f 6), D.int (f 7), D.int (f 8), D.int (f 9),
  D.int (f 10), D.int (f 11), D.int (f 12), D.int (f 13), D.int (f 14), D.int (f 15), D.int (f 16), D.int (f 17), D.int (f 18), x, y] ++ [D.int n] ++ List.drop p [D.int (f 1), D.int (f 2), D.int (f 3), D.int (f 4), D.int (f 5), D.int (f 6), D.int (f 7), D.int (f 8), D.int (f 9),
  D.int (f 10), D.int (f 11), D.int (f 12), D.int (f 13), D.int (f 14), D.int (f 15), D.int (f 16), D.int (f 17), D.int (f 18), x, y] = (fun g : Nat → Int => [D.int (g 0), D.int (g 1), D.int (g 2), D.int (g 3), D.int (g 4), D.int (g 5), D.int (g 6), D.int (g 7), D.int (g 8), D.int (g 9),
  D.int (g 10), D.int (g 11), D.int (g 12), D.int (g 13), D.int (g 14), D.int (g 15), D.int (g 16), D.int (g 17), D.int (g 18), x, y]) (fun i => if i = p then n else f i) := by
  have : p = 0 ∨ p = 1 ∨ p = 2 ∨ p = 3 ∨ p = 4 ∨ p = 5 ∨ p = 6 ∨ p = 7 ∨ p = 8 ∨ p = 9 ∨ p = 10 ∨ p = 11 ∨ p = 12 ∨ p = 13 ∨ p = 14 ∨ p = 15 ∨ p = 16 ∨ p = 17 ∨ p = 18 := by omega
  rcases this with rfl | rfl | rfl | rfl | rfl | rfl | rfl | rfl | rfl | rfl | rfl | rfl | rfl | rfl | rfl | rfl | rfl | rfl | rfl <;> rfl
theorem cset_spec (H : Hp) (c : Cmd) (s : List UInt8) (n : Int) (hg : c.gives.length * 16 ≤ 140737488355328) (hw : c.wants.length * 16 ≤ 140737488355328) : Spec Tryd.prog 42 [c.enc, D.str s, D.int n] H (Ret [(c.setN s n).1.enc, D.bool (c.setN s n).2] H) := by
  refine Spec.ofL [3] Tryd.func42 rfl (by kernel_rfl) ?_
  simp (maxSteps := 4000000) -implicitDefEqProofs only [go_sem, vc_cond, Tryd.results42, Nat.reduceEqDiff, Nat.reduceAdd, Nat.reduceLeDiff, Nat.reduceLT, Nat.reduceMul, Nat.reduceSub, List.reduceReplicate, Int.reduceToNat, Int.reduceLT, Int.reduceLE, Int.reduceEq, Int.reduceAdd, Int.reduceSub, Int.reduceMul, Int.reduceNeg, Nat.zero_add, encS]
  intro k hk
  refine call_of (cfield_spec _ k _ s (upd_same ..) rfl) (by simp (maxSteps := 4000000) -implicitDefEqProofs only [go_sem, vc_cond, Nat.reduceEqDiff, Nat.reduceAdd, Nat.reduceLeDiff, Nat.reduceLT, Nat.reduceMul, Nat.reduceSub, List.reduceReplicate, Int.reduceToNat, Int.reduceLT, Int.reduceLE, Int.reduceEq, Int.reduceAdd, Int.reduceSub, Int.reduceMul, Int.reduceNeg, Nat.zero_add]) ?_
  unfold Cmd.setN
  cases hp0 : posOf s nameList with
  | none =>
    simp (maxSteps := 4000000) -implicitDefEqProofs only [go_sem, vc_condC, Tryd.results42, Nat.reduceEqDiff, Nat.reduceAdd, Nat.reduceLeDiff, Nat.reduceLT, Nat.reduceMul, Nat.reduceSub, List.reduceReplicate, Int.reduceToNat, Int.reduceLT, Int.reduceLE, Int.reduceEq, Int.reduceAdd, Int.reduceSub, Int.reduceMul, Int.reduceNeg, Nat.zero_add, fieldPtr, Cmd.zero, encS]
    exact subH_new hk
  | some p =>
    obtain ⟨hp, _⟩ := posOf_lt hp0
    have hp : p < 19 := hp
    simp (maxSteps := 4000000) -implicitDefEqProofs only [go_sem, vc_condC, Tryd.results42, Nat.reduceEqDiff, Nat.reduceAdd, Nat.reduceLeDiff, Nat.reduceLT, Nat.reduceMul, Nat.reduceSub, List.reduceReplicate, Int.reduceToNat, Int.reduceLT, Int.reduceLE, Int.reduceEq, Int.reduceAdd, Int.reduceSub, Int.reduceMul, Int.reduceNeg, Nat.zero_add, fieldPtr]
    refine ⟨by omega, ?_⟩
    rw [boxed_set _ _ _ p n hp]
    generalize (fun i => if i = p then n else c.num i) = g
    refine draw_of 7 [(19, [encS c.gives]), (22, [encS c.wants])] (by kernel_rfl) ?_
    simp (maxSteps := 4000000) -implicitDefEqProofs only [go_sem, vc_condC, Tryd.results42, Nat.reduceEqDiff, Nat.reduceAdd, Nat.reduceLeDiff, Nat.reduceLT, Nat.reduceMul, Nat.reduceSub, List.reduceReplicate, Int.reduceToNat, Int.reduceLT, Int.reduceLE, Int.reduceEq, Int.reduceAdd, Int.reduceSub, Int.reduceMul, Int.reduceNeg, Nat.zero_add, encS]
    exact ⟨clone_spec _ c.gives hg, clone_spec _ c.wants hw, subH_new hk⟩
end Go.Ab
