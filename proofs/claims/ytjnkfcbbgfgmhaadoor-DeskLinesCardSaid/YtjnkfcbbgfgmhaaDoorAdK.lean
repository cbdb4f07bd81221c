import Derived.Test.YtjnkfcbbgfgmhaaDoorAdC
import Derived.Test.YtjnkfcbbgfgmhaaDoorAdLib
set_option linter.unusedSimpArgs false
set_option linter.unusedVariables false
namespace Go.Ab
open Go Go.Ab Go.Proofs
set_option maxRecDepth 100000
def kindFields : List (List UInt8) := [[97, 115, 32, 110],
  [97, 115, 32, 100, 105, 118, 32, 112, 108, 97, 99, 101, 32, 116, 121, 112, 101, 32, 110],
  [97, 115, 32, 100, 105, 118, 32, 112, 108, 97, 99, 101, 32, 116, 121, 112, 101, 32, 109, 101, 32, 116, 101, 32, 114, 117, 110, 115],
  [119, 104, 111],
  [119, 104, 111, 32, 97, 115, 32, 116, 111, 32, 114, 111, 108, 101, 115],
  [119, 104, 111, 32, 97, 115, 32, 116, 111],
  [119, 104, 111, 32, 97, 115, 32, 116, 111, 32, 110],
  [119, 104, 111, 32, 97, 115, 32, 100, 105, 118, 32, 116, 111, 32, 105, 110, 116, 111, 32, 112, 108, 97, 99, 101, 32, 116, 121, 112, 101, 32, 110],
  [119, 104, 111, 32, 97, 115, 32, 100, 105, 118, 32, 98, 97, 121, 32, 105, 100, 32, 116, 121, 112, 101, 32, 114, 117, 110, 115, 32, 99, 111, 112, 105, 101, 115],
  [119, 104, 111, 32, 105, 100],
  [119, 104, 111, 32, 105, 100],
  [119, 104, 111, 32, 105, 100],
  [119, 104, 111, 32, 105, 100],
  [119, 104, 111, 32, 97, 115, 32, 100, 105, 118, 32, 116, 121, 112, 101, 32, 116, 111, 32, 112, 108, 97, 99, 101, 32, 100, 101, 115, 116, 32, 110, 32, 112, 108, 101, 100, 103, 101, 32, 108, 97, 115, 116, 115, 32, 100, 97, 121, 115],
  [119, 104, 111, 32, 97, 115, 32, 100, 105, 118, 32, 105, 100],
  [119, 104, 111, 32, 105, 100],
  [119, 104, 111, 32, 105, 100],
  [119, 104, 111, 32, 105, 100],
  [119, 104, 111, 32, 105, 100],
  [110],
  [119, 104, 111, 32, 97, 115],
  [119, 104, 111, 32, 97, 115, 32, 100, 105, 118, 32, 112, 108, 97, 99, 101, 32, 116, 121, 112, 101],
  [119, 104, 111, 32, 105, 100],
  [119, 104, 111, 32, 105, 100],
  [119, 104, 111]]
def numbersText : List UInt8 := [119, 104, 111, 32, 97, 115, 32, 100, 105, 118, 32, 105, 100, 32, 116, 111, 32, 105, 110, 116, 111, 32, 112, 108, 97, 99, 101, 32, 100, 101, 115, 116, 32, 116, 121, 112, 101, 32, 110, 32, 112, 108, 101, 100, 103, 101, 32, 108, 97, 115, 116, 115, 32, 100, 97, 121, 115, 32, 114, 117, 110, 115, 32, 99, 111, 112, 105, 101, 115, 32, 114, 111, 108, 101, 115, 32, 109, 101, 32, 116, 101, 32, 98, 97, 121]
def kindCells : List D := [D.str [109, 105, 110, 116], D.str [97, 115, 32, 110],
  D.str [115, 101, 101, 100], D.str [97, 115, 32, 100, 105, 118, 32, 112, 108, 97, 99, 101, 32, 116, 121, 112, 101, 32, 110],
  D.str [100, 114, 97, 102, 116], D.str [97, 115, 32, 100, 105, 118, 32, 112, 108, 97, 99, 101, 32, 116, 121, 112, 101, 32, 109, 101, 32, 116, 101, 32, 114, 117, 110, 115],
  D.str [102, 111, 117, 110, 100], D.str [119, 104, 111],
  D.str [101, 110, 114, 111, 108], D.str [119, 104, 111, 32, 97, 115, 32, 116, 111, 32, 114, 111, 108, 101, 115],
  D.str [101, 120, 112, 101, 108], D.str [119, 104, 111, 32, 97, 115, 32, 116, 111],
  D.str [112, 97, 121], D.str [119, 104, 111, 32, 97, 115, 32, 116, 111, 32, 110],
  D.str [103, 105, 118, 101], D.str [119, 104, 111, 32, 97, 115, 32, 100, 105, 118, 32, 116, 111, 32, 105, 110, 116, 111, 32, 112, 108, 97, 99, 101, 32, 116, 121, 112, 101, 32, 110],
  D.str [105, 110, 115, 116, 97, 108, 108], D.str [119, 104, 111, 32, 97, 115, 32, 100, 105, 118, 32, 98, 97, 121, 32, 105, 100, 32, 116, 121, 112, 101, 32, 114, 117, 110, 115, 32, 99, 111, 112, 105, 101, 115],
  D.str [112, 97, 117, 115, 101], D.str [119, 104, 111, 32, 105, 100],
  D.str [114, 101, 115, 117, 109, 101], D.str [119, 104, 111, 32, 105, 100],
  D.str [99, 97, 110, 99, 101, 108], D.str [119, 104, 111, 32, 105, 100],
  D.str [100, 101, 108, 105, 118, 101, 114], D.str [119, 104, 111, 32, 105, 100],
  D.str [105, 115, 115, 117, 101], D.str [119, 104, 111, 32, 97, 115, 32, 100, 105, 118, 32, 116, 121, 112, 101, 32, 116, 111, 32, 112, 108, 97, 99, 101, 32, 100, 101, 115, 116, 32, 110, 32, 112, 108, 101, 100, 103, 101, 32, 108, 97, 115, 116, 115, 32, 100, 97, 121, 115],
  D.str [97, 99, 99, 101, 112, 116], D.str [119, 104, 111, 32, 97, 115, 32, 100, 105, 118, 32, 105, 100],
  D.str [104, 97, 110, 100], D.str [119, 104, 111, 32, 105, 100],
  D.str [102, 97, 105, 108], D.str [119, 104, 111, 32, 105, 100],
  D.str [114, 101, 106, 101, 99, 116], D.str [119, 104, 111, 32, 105, 100],
  D.str [114, 101, 118, 111, 107, 101], D.str [119, 104, 111, 32, 105, 100],
  D.str [116, 105, 99, 107], D.str [110],
  D.str [109, 111, 110, 101, 121], D.str [119, 104, 111, 32, 97, 115],
  D.str [115, 116, 97, 99, 107], D.str [119, 104, 111, 32, 97, 115, 32, 100, 105, 118, 32, 112, 108, 97, 99, 101, 32, 116, 121, 112, 101],
  D.str [106, 111, 98], D.str [119, 104, 111, 32, 105, 100],
  D.str [100, 101, 97, 108], D.str [119, 104, 111, 32, 105, 100],
  D.str [99, 108, 111, 99, 107], D.str [119, 104, 111]]
theorem kinds_spec (H : Hp) : Spec Tryd.prog 33 [] H (Ret [.agg kindCells] H) := by
  refine Spec.ofL [] Tryd.func33 rfl (by kernel_rfl) ?_
  simp (maxSteps := 4000000) -implicitDefEqProofs only [go_sem, vc_cond, Tryd.results33, Nat.reduceEqDiff, Nat.reduceAdd, Nat.reduceLeDiff, Nat.reduceLT, Nat.reduceMul, Nat.reduceSub, List.reduceReplicate, Int.reduceToNat, Int.reduceLT, Int.reduceLE, Int.reduceEq, Int.reduceAdd, Int.reduceSub, Int.reduceMul, Int.reduceNeg, Nat.zero_add]
  exact .inl rfl
theorem kindCells_at {i : Nat} (h : i < 25) : (kindCells.drop (i * 2)).take 2 = [D.str (kindList.getD i []), D.str (kindFields.getD i [])] := by
  have : i = 0 ∨ i = 1 ∨ i = 2 ∨ i = 3 ∨ i = 4 ∨ i = 5 ∨ i = 6 ∨ i = 7 ∨ i = 8 ∨ i = 9 ∨ i = 10 ∨ i = 11 ∨ i = 12 ∨ i = 13 ∨ i = 14 ∨ i = 15 ∨ i = 16 ∨ i = 17 ∨ i = 18 ∨ i = 19 ∨ i = 20 ∨ i = 21 ∨ i = 22 ∨ i = 23 ∨ i = 24 := by omega
  rcases this with rfl | rfl | rfl | rfl | rfl | rfl | rfl | rfl | rfl | rfl | rfl | rfl | rfl | rfl | rfl | rfl | rfl | rfl | rfl | rfl | rfl | rfl | rfl | rfl | rfl <;> rfl
theorem kindCells_len : kindCells.length = 50 := rfl
theorem kindCells_room {i : Nat} (h : i < 25) : (2 ≤ (kindCells.drop (i * 2)).length) = True := eq_true (by rw [List.length_drop, kindCells_len]; omega)
theorem kind_case {k : Int} (h : 1 ≤ k ∧ k ≤ 25) : ∃ i : Nat, i < 25 ∧ k = (i : Int) + 1 ∧ IntKind.i64.wrap ((i : Int) + 1 - 1) = i ∧ k.toNat - 1 = i :=
  ⟨k.toNat - 1, by omega, by omega, by rw [wrap_i64 (by omega) (by omega)]; omega, rfl⟩
def nameOf (k : Int) : List UInt8 := if 1 ≤ k ∧ k ≤ 25 then kindList.getD (k.toNat - 1) [] else []
theorem cname_spec (H : Hp) (k : Int) : Spec Tryd.prog 11 [D.int k] H (Ret [D.str (nameOf k)] H) := by
  refine Spec.ofL [] Tryd.func11 rfl (by kernel_rfl) ?_
  simp (maxSteps := 4000000) -implicitDefEqProofs only [go_sem, vc_condC, Tryd.results11, Nat.reduceEqDiff, Nat.reduceAdd, Nat.reduceLeDiff, Nat.reduceLT, Nat.reduceMul, Nat.reduceSub, List.reduceReplicate, Int.reduceToNat, Int.reduceLT, Int.reduceLE, Int.reduceEq, Int.reduceAdd, Int.reduceSub, Int.reduceMul, Int.reduceNeg, Nat.zero_add]
  refine cond_of (fun h => ?_) (fun h => ?_)
  · rw [nameOf, if_neg (by simp at h; omega)]
    simp (maxSteps := 4000000) -implicitDefEqProofs only [go_sem, vc_condC, Tryd.results11, Nat.reduceEqDiff, Nat.reduceAdd, Nat.reduceLeDiff, Nat.reduceLT, Nat.reduceMul, Nat.reduceSub, List.reduceReplicate, Int.reduceToNat, Int.reduceLT, Int.reduceLE, Int.reduceEq, Int.reduceAdd, Int.reduceSub, Int.reduceMul, Int.reduceNeg, Nat.zero_add]
  · have h : 1 ≤ k ∧ k ≤ 25 := by simp at h; omega
    rw [nameOf, if_pos h]
    obtain ⟨i, hi, rfl, e1, e2⟩ := kind_case h
    rw [e2]
    simp (maxSteps := 4000000) -implicitDefEqProofs only [go_sem, vc_condC, Tryd.results11, Nat.reduceEqDiff, Nat.reduceAdd, Nat.reduceLeDiff, Nat.reduceLT, Nat.reduceMul, Nat.reduceSub, List.reduceReplicate, Int.reduceToNat, Int.reduceLT, Int.reduceLE, Int.reduceEq, Int.reduceAdd, Int.reduceSub, Int.reduceMul, Int.reduceNeg, Nat.zero_add]
    refine call_of (kinds_spec H) (by simp (maxSteps := 4000000) -implicitDefEqProofs only [go_sem, vc_cond, Nat.reduceEqDiff, Nat.reduceAdd, Nat.reduceLeDiff, Nat.reduceLT, Nat.reduceMul, Nat.reduceSub, List.reduceReplicate, Int.reduceToNat, Int.reduceLT, Int.reduceLE, Int.reduceEq, Int.reduceAdd, Int.reduceSub, Int.reduceMul, Int.reduceNeg, Nat.zero_add]) ?_
    simp (maxSteps := 4000000) -implicitDefEqProofs only [go_sem, vc_condC, Tryd.results11, Nat.reduceEqDiff, Nat.reduceAdd, Nat.reduceLeDiff, Nat.reduceLT, Nat.reduceMul, Nat.reduceSub, List.reduceReplicate, Int.reduceToNat, Int.reduceLT, Int.reduceLE, Int.reduceEq, Int.reduceAdd, Int.reduceSub, Int.reduceMul, Int.reduceNeg, Nat.zero_add, e1, kindCells_at hi, kindCells_room hi]
    omega
theorem kindFields_ok {i : Nat} (h : i < 25) : (kindFields.getD i []).length < 100 ∧ (kindFields.getD i []).all (fun b => decide (b.toNat < 128)) = true ∧ Lib.fields (kindFields.getD i []) = (fieldTab.getD i []).map (nameList.getD · []) := by
  have : i = 0 ∨ i = 1 ∨ i = 2 ∨ i = 3 ∨ i = 4 ∨ i = 5 ∨ i = 6 ∨ i = 7 ∨ i = 8 ∨ i = 9 ∨ i = 10 ∨ i = 11 ∨ i = 12 ∨ i = 13 ∨ i = 14 ∨ i = 15 ∨ i = 16 ∨ i = 17 ∨ i = 18 ∨ i = 19 ∨ i = 20 ∨ i = 21 ∨ i = 22 ∨ i = 23 ∨ i = 24 := by omega
  rcases this with rfl | rfl | rfl | rfl | rfl | rfl | rfl | rfl | rfl | rfl | rfl | rfl | rfl | rfl | rfl | rfl | rfl | rfl | rfl | rfl | rfl | rfl | rfl | rfl | rfl <;> exact ⟨by decide, by decide, by rfl⟩
theorem fields_spec (H : Hp) (k : Int) : Spec Tryd.prog 12 [D.int k] H (Ret [texts (fieldsOf k)] H) := by
  refine Spec.ofL [] Tryd.func12 rfl (by kernel_rfl) ?_
  simp (maxSteps := 4000000) -implicitDefEqProofs only [go_sem, vc_condC, Tryd.results12, Nat.reduceEqDiff, Nat.reduceAdd, Nat.reduceLeDiff, Nat.reduceLT, Nat.reduceMul, Nat.reduceSub, List.reduceReplicate, Int.reduceToNat, Int.reduceLT, Int.reduceLE, Int.reduceEq, Int.reduceAdd, Int.reduceSub, Int.reduceMul, Int.reduceNeg, Nat.zero_add]
  refine cond_of (fun h => ?_) (fun h => ?_)
  · rw [fieldsOf, if_neg (by simp at h; omega)]
    simp (maxSteps := 4000000) -implicitDefEqProofs only [go_sem, vc_condC, Tryd.results12, Nat.reduceEqDiff, Nat.reduceAdd, Nat.reduceLeDiff, Nat.reduceLT, Nat.reduceMul, Nat.reduceSub, List.reduceReplicate, Int.reduceToNat, Int.reduceLT, Int.reduceLE, Int.reduceEq, Int.reduceAdd, Int.reduceSub, Int.reduceMul, Int.reduceNeg, Nat.zero_add]
  · have h : 1 ≤ k ∧ k ≤ 25 := by simp at h; omega
    rw [fieldsOf, if_pos h]
    obtain ⟨i, hi, rfl, e1, e2⟩ := kind_case h
    rw [e2]
    simp (maxSteps := 4000000) -implicitDefEqProofs only [go_sem, vc_condC, Tryd.results12, Nat.reduceEqDiff, Nat.reduceAdd, Nat.reduceLeDiff, Nat.reduceLT, Nat.reduceMul, Nat.reduceSub, List.reduceReplicate, Int.reduceToNat, Int.reduceLT, Int.reduceLE, Int.reduceEq, Int.reduceAdd, Int.reduceSub, Int.reduceMul, Int.reduceNeg, Nat.zero_add]
    refine call_of (kinds_spec H) (by simp (maxSteps := 4000000) -implicitDefEqProofs only [go_sem, vc_cond, Nat.reduceEqDiff, Nat.reduceAdd, Nat.reduceLeDiff, Nat.reduceLT, Nat.reduceMul, Nat.reduceSub, List.reduceReplicate, Int.reduceToNat, Int.reduceLT, Int.reduceLE, Int.reduceEq, Int.reduceAdd, Int.reduceSub, Int.reduceMul, Int.reduceNeg, Nat.zero_add]) ?_
    simp (maxSteps := 4000000) -implicitDefEqProofs only [go_sem, vc_condC, Tryd.results12, Nat.reduceEqDiff, Nat.reduceAdd, Nat.reduceLeDiff, Nat.reduceLT, Nat.reduceMul, Nat.reduceSub, List.reduceReplicate, Int.reduceToNat, Int.reduceLT, Int.reduceLE, Int.reduceEq, Int.reduceAdd, Int.reduceSub, Int.reduceMul, Int.reduceNeg, Nat.zero_add, e1, kindCells_at hi, kindCells_room hi]
    obtain ⟨f1, f2, f3⟩ := kindFields_ok hi
    refine ⟨by omega, call_of (sfields_spec H (kindFields.getD i []) (by omega) (fun b hb => by simpa using List.all_eq_true.1 f2 b hb)) (by simp (maxSteps := 4000000) -implicitDefEqProofs only [go_sem, vc_cond, Nat.reduceEqDiff, Nat.reduceAdd, Nat.reduceLeDiff, Nat.reduceLT, Nat.reduceMul, Nat.reduceSub, List.reduceReplicate, Int.reduceToNat, Int.reduceLT, Int.reduceLE, Int.reduceEq, Int.reduceAdd, Int.reduceSub, Int.reduceMul, Int.reduceNeg, Nat.zero_add]) ?_⟩
    rw [f3]
    simp (maxSteps := 4000000) -implicitDefEqProofs only [go_sem, vc_condC, Tryd.results12, Nat.reduceEqDiff, Nat.reduceAdd, Nat.reduceLeDiff, Nat.reduceLT, Nat.reduceMul, Nat.reduceSub, List.reduceReplicate, Int.reduceToNat, Int.reduceLT, Int.reduceLE, Int.reduceEq, Int.reduceAdd, Int.reduceSub, Int.reduceMul, Int.reduceNeg, Nat.zero_add]
theorem kind_spec (H : Hp) (s : List UInt8) : Spec Tryd.prog 23 [D.str s] H (Ret [D.int (kindNo (posOf s kindList))] H) := by
  refine Spec.ofL [] Tryd.func23 rfl (by kernel_rfl) ?_
  simp (maxSteps := 4000000) -implicitDefEqProofs only [go_sem, vc_condC, Tryd.results23, Nat.reduceEqDiff, Nat.reduceAdd, Nat.reduceLeDiff, Nat.reduceLT, Nat.reduceMul, Nat.reduceSub, List.reduceReplicate, Int.reduceToNat, Int.reduceLT, Int.reduceLE, Int.reduceEq, Int.reduceAdd, Int.reduceSub, Int.reduceMul, Int.reduceNeg, Nat.zero_add]
  refine call_of (kinds_spec H) (by simp (maxSteps := 4000000) -implicitDefEqProofs only [go_sem, vc_cond, Nat.reduceEqDiff, Nat.reduceAdd, Nat.reduceLeDiff, Nat.reduceLT, Nat.reduceMul, Nat.reduceSub, List.reduceReplicate, Int.reduceToNat, Int.reduceLT, Int.reduceLE, Int.reduceEq, Int.reduceAdd, Int.reduceSub, Int.reduceMul, Int.reduceNeg, Nat.zero_add]) ?_
  simp (maxSteps := 4000000) -implicitDefEqProofs only [go_sem, vc_condC, Tryd.results23, Nat.reduceEqDiff, Nat.reduceAdd, Nat.reduceLeDiff, Nat.reduceLT, Nat.reduceMul, Nat.reduceSub, List.reduceReplicate, Int.reduceToNat, Int.reduceLT, Int.reduceLE, Int.reduceEq, Int.reduceAdd, Int.reduceSub, Int.reduceMul, Int.reduceNeg, Nat.zero_add]
  refine loop_of (fun (k : Nat) => { env := [(0, .d (D.str s)), (5, .d (.agg kindCells)), (6, .d (D.int k))], L := [], H := H }) (fun k => k ≤ 25 ∧ s ∉ kindList.take k) (fun k => 25 - k) 0 ⟨by simp, by simp⟩
    (imp_le (by simp (maxSteps := 4000000) -implicitDefEqProofs only [go_sem, vc_cond, Nat.reduceEqDiff, Nat.reduceAdd, Nat.reduceLeDiff, Nat.reduceLT, Nat.reduceMul, Nat.reduceSub, List.reduceReplicate, Int.reduceToNat, Int.reduceLT, Int.reduceLE, Int.reduceEq, Int.reduceAdd, Int.reduceSub, Int.reduceMul, Int.reduceNeg, Nat.zero_add])) fun k hk => ?_
  simp (maxSteps := 4000000) -implicitDefEqProofs only [go_sem, vc_condC, Tryd.results23, Nat.reduceEqDiff, Nat.reduceAdd, Nat.reduceLeDiff, Nat.reduceLT, Nat.reduceMul, Nat.reduceSub, List.reduceReplicate, Int.reduceToNat, Int.reduceLT, Int.reduceLE, Int.reduceEq, Int.reduceAdd, Int.reduceSub, Int.reduceMul, Int.reduceNeg, Nat.zero_add]
  refine cond_of (fun h => ?_) (fun h => ?_)
  · obtain ⟨hk1, hk2⟩ := hk
    have h : k < 25 := by simp at h; omega
    simp (maxSteps := 4000000) -implicitDefEqProofs only [go_sem, vc_condC, Tryd.results23, Nat.reduceEqDiff, Nat.reduceAdd, Nat.reduceLeDiff, Nat.reduceLT, Nat.reduceMul, Nat.reduceSub, List.reduceReplicate, Int.reduceToNat, Int.reduceLT, Int.reduceLE, Int.reduceEq, Int.reduceAdd, Int.reduceSub, Int.reduceMul, Int.reduceNeg, Nat.zero_add, kindCells_at h, kindCells_room h]
    have hl : k < kindList.length := h
    have e : kindList.getD k [] = kindList[k] := by rw [List.getD_eq_getElem?_getD, List.getElem?_eq_getElem hl]; rfl
    rw [e]
    refine ⟨by omega, cond_of (fun hb => ?_) (fun hb => ?_)⟩
    · have hb : kindList[k] = s := by simpa using hb
      rw [posOf_some hk2 hl hb]
      simp (maxSteps := 4000000) -implicitDefEqProofs only [go_sem, vc_condC, Tryd.results23, Nat.reduceEqDiff, Nat.reduceAdd, Nat.reduceLeDiff, Nat.reduceLT, Nat.reduceMul, Nat.reduceSub, List.reduceReplicate, Int.reduceToNat, Int.reduceLT, Int.reduceLE, Int.reduceEq, Int.reduceAdd, Int.reduceSub, Int.reduceMul, Int.reduceNeg, Nat.zero_add, kindNo]
      rw [wrap_i64 (by omega) (by omega)]
    · have hb : ¬ kindList[k] = s := by simpa using hb
      simp (maxSteps := 4000000) -implicitDefEqProofs only [go_sem, vc_condC, Tryd.results23, Nat.reduceEqDiff, Nat.reduceAdd, Nat.reduceLeDiff, Nat.reduceLT, Nat.reduceMul, Nat.reduceSub, List.reduceReplicate, Int.reduceToNat, Int.reduceLT, Int.reduceLE, Int.reduceEq, Int.reduceAdd, Int.reduceSub, Int.reduceMul, Int.reduceNeg, Nat.zero_add]
      refine ⟨k + 1, ⟨by omega, ?_⟩, by omega, ?_⟩
      · rw [List.take_succ_eq_append_getElem hl]
        simp only [List.mem_append, List.mem_singleton, not_or]
        exact ⟨hk2, fun e => hb e.symm⟩
      · rw [wrap_i64 (by omega) (by omega)]; simp
  · have hk' : k = 25 := by simp at h; omega
    subst hk'
    have hk2 : s ∉ kindList := hk.2
    rw [posOf_none hk2]
    simp (maxSteps := 4000000) -implicitDefEqProofs only [go_sem, vc_condC, Tryd.results23, Nat.reduceEqDiff, Nat.reduceAdd, Nat.reduceLeDiff, Nat.reduceLT, Nat.reduceMul, Nat.reduceSub, List.reduceReplicate, Int.reduceToNat, Int.reduceLT, Int.reduceLE, Int.reduceEq, Int.reduceAdd, Int.reduceSub, Int.reduceMul, Int.reduceNeg, Nat.zero_add, kindNo]
end Go.Ab
