import Derived.Test.YtjnkfcbbgfgmhaaDoorAdD
set_option linter.unusedSimpArgs false
set_option linter.unusedVariables false
namespace Go.Ab
open Go Go.Ab Go.Proofs
set_option maxRecDepth 100000
/-- What 'field' answers. -/
def FieldQ (c : Cmd) (name text : List UInt8) (H : Hp) (rs : List D) (H' : Hp) : Prop :=
  H' = H ∧ ((∃ c', fieldOf c name text = some c' ∧ rs = [c'.enc, D.bool true]) ∨ (fieldOf c name text = none ∧ ∃ d : Cmd, rs = [d.enc, D.bool false]))
theorem setN_ok {c : Cmd} {name : List UInt8} {n : Int} (h : name ∈ fieldsOf c.kind) : (c.setN name n).2 = true := by
  unfold Cmd.setN
  have : name ∈ nameList := by
    unfold fieldsOf at h
    split at h
    · rename_i hk
      obtain ⟨i, hi, rfl⟩ := List.mem_map.1 h
      have hi19 : i < nameList.length := by
        obtain ⟨j, hj, _, e2⟩ := (⟨c.kind.toNat - 1, by omega, by omega, rfl⟩ : ∃ j : Nat, j < 25 ∧ c.kind = (j : Int) + 1 ∧ c.kind.toNat - 1 = j)
        rw [e2] at hi
        have key : ∀ j, j < 25 → ∀ i ∈ fieldTab.getD j [], i < 19 := by decide
        exact key j hj i hi
      rw [List.getD_eq_getElem?_getD, List.getElem?_eq_getElem hi19]
      exact List.getElem_mem hi19
    · cases h
  cases hp : posOf name nameList with
  | some p => rfl
  | none =>
    exfalso
    have : ∀ (l : List (List UInt8)), name ∈ l → posOf name l ≠ none := by
      intro l
      induction l with
      | nil => intro h; cases h
      | cons x r ih =>
        intro h
        rw [posOf]
        split
        · simp
        · rename_i hne
          rcases List.mem_cons.1 h with rfl | h
          · exact absurd rfl hne
          · cases hr : posOf name r with
            | none => exact absurd hr (ih h)
            | some k => simp
    exact this _ ‹_› hp
theorem dfield_spec (H : Hp) (c : Cmd) (name text : List UInt8) (ht : text.length < 4294967281) (hg : c.gives.length * 16 ≤ 140737488355328) (hw : c.wants.length * 16 ≤ 140737488355328) :
    Spec Tryd.prog 25 [c.enc, D.str name, D.str text] H (FieldQ c name text H) := by
  refine Spec.ofLR [] Tryd.func25 rfl (by kernel_rfl) ?_
  simp (maxSteps := 4000000) -implicitDefEqProofs only [go_sem, vc_condC, Tryd.results25, Nat.reduceEqDiff, Nat.reduceAdd, Nat.reduceLeDiff, Nat.reduceLT, Nat.reduceMul, Nat.reduceSub, List.reduceReplicate, Int.reduceToNat, Int.reduceLT, Int.reduceLE, Int.reduceEq, Int.reduceAdd, Int.reduceSub, Int.reduceMul, Int.reduceNeg, Nat.zero_add, encS]
  refine ⟨fun p q => ⟨p, q⟩, cond_of (fun hb => ?_) (fun hb => ?_)⟩
  · simp only [Bool.and_eq_true, Bool.or_eq_true, decide_eq_true_eq] at hb
    obtain ⟨h14, hgw⟩ := hb
    have f2 := fieldOf_list (text := text) h14 hgw
    simp (maxSteps := 4000000) -implicitDefEqProofs only [go_sem, vc_condC, Tryd.results25, Nat.reduceEqDiff, Nat.reduceAdd, Nat.reduceLeDiff, Nat.reduceLT, Nat.reduceMul, Nat.reduceSub, List.reduceReplicate, Int.reduceToNat, Int.reduceLT, Int.reduceLE, Int.reduceEq, Int.reduceAdd, Int.reduceSub, Int.reduceMul, Int.reduceNeg, Nat.zero_add]
    refine call_of (stacks_spec H text ht) (by simp (maxSteps := 4000000) -implicitDefEqProofs only [go_sem, vc_cond, Nat.reduceEqDiff, Nat.reduceAdd, Nat.reduceLeDiff, Nat.reduceLT, Nat.reduceMul, Nat.reduceSub, List.reduceReplicate, Int.reduceToNat, Int.reduceLT, Int.reduceLE, Int.reduceEq, Int.reduceAdd, Int.reduceSub, Int.reduceMul, Int.reduceNeg, Nat.zero_add]) ?_
    generalize stksOf text = o at *
    cases o with
    | none =>
      simp (maxSteps := 4000000) -implicitDefEqProofs only [go_sem, vc_condC, Tryd.results25, Nat.reduceEqDiff, Nat.reduceAdd, Nat.reduceLeDiff, Nat.reduceLT, Nat.reduceMul, Nat.reduceSub, List.reduceReplicate, Int.reduceToNat, Int.reduceLT, Int.reduceLE, Int.reduceEq, Int.reduceAdd, Int.reduceSub, Int.reduceMul, Int.reduceNeg, Nat.zero_add, stksRes]
      refine cond_of (fun hg => ?_) (fun hg => ?_)
      · simp (maxSteps := 4000000) -implicitDefEqProofs only [go_sem, vc_condC, Tryd.results25, Nat.reduceEqDiff, Nat.reduceAdd, Nat.reduceLeDiff, Nat.reduceLT, Nat.reduceMul, Nat.reduceSub, List.reduceReplicate, Int.reduceToNat, Int.reduceLT, Int.reduceLE, Int.reduceEq, Int.reduceAdd, Int.reduceSub, Int.reduceMul, Int.reduceNeg, Nat.zero_add]
        refine ⟨_, _, ?_, subH.refl _, rfl, .inr ⟨f2, { c with gives := [] }, rfl⟩⟩
        simp (maxSteps := 4000000) -implicitDefEqProofs only [go_sem, vc_condC, Tryd.results25, Nat.reduceEqDiff, Nat.reduceAdd, Nat.reduceLeDiff, Nat.reduceLT, Nat.reduceMul, Nat.reduceSub, List.reduceReplicate, Int.reduceToNat, Int.reduceLT, Int.reduceLE, Int.reduceEq, Int.reduceAdd, Int.reduceSub, Int.reduceMul, Int.reduceNeg, Nat.zero_add, encS]
      · simp (maxSteps := 4000000) -implicitDefEqProofs only [go_sem, vc_condC, Tryd.results25, Nat.reduceEqDiff, Nat.reduceAdd, Nat.reduceLeDiff, Nat.reduceLT, Nat.reduceMul, Nat.reduceSub, List.reduceReplicate, Int.reduceToNat, Int.reduceLT, Int.reduceLE, Int.reduceEq, Int.reduceAdd, Int.reduceSub, Int.reduceMul, Int.reduceNeg, Nat.zero_add]
        refine ⟨_, _, ?_, subH.refl _, rfl, .inr ⟨f2, { c with wants := [] }, rfl⟩⟩
        simp (maxSteps := 4000000) -implicitDefEqProofs only [go_sem, vc_condC, Tryd.results25, Nat.reduceEqDiff, Nat.reduceAdd, Nat.reduceLeDiff, Nat.reduceLT, Nat.reduceMul, Nat.reduceSub, List.reduceReplicate, Int.reduceToNat, Int.reduceLT, Int.reduceLE, Int.reduceEq, Int.reduceAdd, Int.reduceSub, Int.reduceMul, Int.reduceNeg, Nat.zero_add, encS]
    | some l =>
      simp (maxSteps := 4000000) -implicitDefEqProofs only [go_sem, vc_condC, Tryd.results25, Nat.reduceEqDiff, Nat.reduceAdd, Nat.reduceLeDiff, Nat.reduceLT, Nat.reduceMul, Nat.reduceSub, List.reduceReplicate, Int.reduceToNat, Int.reduceLT, Int.reduceLE, Int.reduceEq, Int.reduceAdd, Int.reduceSub, Int.reduceMul, Int.reduceNeg, Nat.zero_add, stksRes]
      refine cond_of (fun hg => ?_) (fun hg => ?_)
      · simp (maxSteps := 4000000) -implicitDefEqProofs only [go_sem, vc_condC, Tryd.results25, Nat.reduceEqDiff, Nat.reduceAdd, Nat.reduceLeDiff, Nat.reduceLT, Nat.reduceMul, Nat.reduceSub, List.reduceReplicate, Int.reduceToNat, Int.reduceLT, Int.reduceLE, Int.reduceEq, Int.reduceAdd, Int.reduceSub, Int.reduceMul, Int.reduceNeg, Nat.zero_add, encS]
        refine ⟨_, _, ?_, subH.refl _, rfl, .inl ⟨{ c with gives := l }, f2.trans (congrArg some (if_pos (of_decide_eq_true hg))), rfl⟩⟩
        simp (maxSteps := 4000000) -implicitDefEqProofs only [go_sem, vc_condC, Tryd.results25, Nat.reduceEqDiff, Nat.reduceAdd, Nat.reduceLeDiff, Nat.reduceLT, Nat.reduceMul, Nat.reduceSub, List.reduceReplicate, Int.reduceToNat, Int.reduceLT, Int.reduceLE, Int.reduceEq, Int.reduceAdd, Int.reduceSub, Int.reduceMul, Int.reduceNeg, Nat.zero_add, encS]
      · simp (maxSteps := 4000000) -implicitDefEqProofs only [go_sem, vc_condC, Tryd.results25, Nat.reduceEqDiff, Nat.reduceAdd, Nat.reduceLeDiff, Nat.reduceLT, Nat.reduceMul, Nat.reduceSub, List.reduceReplicate, Int.reduceToNat, Int.reduceLT, Int.reduceLE, Int.reduceEq, Int.reduceAdd, Int.reduceSub, Int.reduceMul, Int.reduceNeg, Nat.zero_add, encS]
        refine ⟨_, _, ?_, subH.refl _, rfl, .inl ⟨{ c with wants := l }, f2.trans (congrArg some (if_neg (of_decide_eq_false hg))), rfl⟩⟩
        simp (maxSteps := 4000000) -implicitDefEqProofs only [go_sem, vc_condC, Tryd.results25, Nat.reduceEqDiff, Nat.reduceAdd, Nat.reduceLeDiff, Nat.reduceLT, Nat.reduceMul, Nat.reduceSub, List.reduceReplicate, Int.reduceToNat, Int.reduceLT, Int.reduceLE, Int.reduceEq, Int.reduceAdd, Int.reduceSub, Int.reduceMul, Int.reduceNeg, Nat.zero_add, encS]
  · have hb2 : ¬ (c.kind = 14 ∧ (name = txGives ∨ name = txWants)) := by
      simp only [Bool.and_eq_false_iff, Bool.or_eq_false_iff, decide_eq_false_iff_not] at hb
      rintro ⟨h1, h2 | h2⟩
      · rcases hb with hb | hb
        · exact hb h1
        · exact hb.1 h2
      · rcases hb with hb | hb
        · exact hb h1
        · exact hb.2 h2
    have f2 := fieldOf_num (text := text) hb2
    clear hb hb2
    simp (maxSteps := 4000000) -implicitDefEqProofs only [go_sem, vc_condC, Tryd.results25, Nat.reduceEqDiff, Nat.reduceAdd, Nat.reduceLeDiff, Nat.reduceLT, Nat.reduceMul, Nat.reduceSub, List.reduceReplicate, Int.reduceToNat, Int.reduceLT, Int.reduceLE, Int.reduceEq, Int.reduceAdd, Int.reduceSub, Int.reduceMul, Int.reduceNeg, Nat.zero_add]
    refine call_of (number_spec H text (by omega)) (by simp (maxSteps := 4000000) -implicitDefEqProofs only [go_sem, vc_cond, Nat.reduceEqDiff, Nat.reduceAdd, Nat.reduceLeDiff, Nat.reduceLT, Nat.reduceMul, Nat.reduceSub, List.reduceReplicate, Int.reduceToNat, Int.reduceLT, Int.reduceLE, Int.reduceEq, Int.reduceAdd, Int.reduceSub, Int.reduceMul, Int.reduceNeg, Nat.zero_add]) ?_
    generalize numOf text = o at *
    cases o with
    | none =>
      simp (maxSteps := 4000000) -implicitDefEqProofs only [go_sem, vc_condC, Tryd.results25, Nat.reduceEqDiff, Nat.reduceAdd, Nat.reduceLeDiff, Nat.reduceLT, Nat.reduceMul, Nat.reduceSub, List.reduceReplicate, Int.reduceToNat, Int.reduceLT, Int.reduceLE, Int.reduceEq, Int.reduceAdd, Int.reduceSub, Int.reduceMul, Int.reduceNeg, Nat.zero_add, numRes]
      refine ⟨_, _, ?_, subH.refl _, rfl, .inr ⟨f2, c, rfl⟩⟩
      simp (maxSteps := 4000000) -implicitDefEqProofs only [go_sem, vc_condC, Tryd.results25, Nat.reduceEqDiff, Nat.reduceAdd, Nat.reduceLeDiff, Nat.reduceLT, Nat.reduceMul, Nat.reduceSub, List.reduceReplicate, Int.reduceToNat, Int.reduceLT, Int.reduceLE, Int.reduceEq, Int.reduceAdd, Int.reduceSub, Int.reduceMul, Int.reduceNeg, Nat.zero_add, encS]
    | some n =>
      simp (maxSteps := 4000000) -implicitDefEqProofs only [go_sem, vc_condC, Tryd.results25, Nat.reduceEqDiff, Nat.reduceAdd, Nat.reduceLeDiff, Nat.reduceLT, Nat.reduceMul, Nat.reduceSub, List.reduceReplicate, Int.reduceToNat, Int.reduceLT, Int.reduceLE, Int.reduceEq, Int.reduceAdd, Int.reduceSub, Int.reduceMul, Int.reduceNeg, Nat.zero_add, numRes]
      refine call_of (fields_spec H c.kind) (by simp (maxSteps := 4000000) -implicitDefEqProofs only [go_sem, vc_cond, Nat.reduceEqDiff, Nat.reduceAdd, Nat.reduceLeDiff, Nat.reduceLT, Nat.reduceMul, Nat.reduceSub, List.reduceReplicate, Int.reduceToNat, Int.reduceLT, Int.reduceLE, Int.reduceEq, Int.reduceAdd, Int.reduceSub, Int.reduceMul, Int.reduceNeg, Nat.zero_add]) ?_
      simp (maxSteps := 4000000) -implicitDefEqProofs only [go_sem, vc_condC, Tryd.results25, Nat.reduceEqDiff, Nat.reduceAdd, Nat.reduceLeDiff, Nat.reduceLT, Nat.reduceMul, Nat.reduceSub, List.reduceReplicate, Int.reduceToNat, Int.reduceLT, Int.reduceLE, Int.reduceEq, Int.reduceAdd, Int.reduceSub, Int.reduceMul, Int.reduceNeg, Nat.zero_add]
      refine call_of (contains_spec H (fieldsOf c.kind) false name) (by simp (maxSteps := 4000000) -implicitDefEqProofs only [go_sem, vc_cond, Nat.reduceEqDiff, Nat.reduceAdd, Nat.reduceLeDiff, Nat.reduceLT, Nat.reduceMul, Nat.reduceSub, List.reduceReplicate, Int.reduceToNat, Int.reduceLT, Int.reduceLE, Int.reduceEq, Int.reduceAdd, Int.reduceSub, Int.reduceMul, Int.reduceNeg, Nat.zero_add]) ?_
      simp (maxSteps := 4000000) -implicitDefEqProofs only [go_sem, vc_condC, Tryd.results25, Nat.reduceEqDiff, Nat.reduceAdd, Nat.reduceLeDiff, Nat.reduceLT, Nat.reduceMul, Nat.reduceSub, List.reduceReplicate, Int.reduceToNat, Int.reduceLT, Int.reduceLE, Int.reduceEq, Int.reduceAdd, Int.reduceSub, Int.reduceMul, Int.reduceNeg, Nat.zero_add]
      refine cond_of (fun hm => ?_) (fun hm => ?_)
      · have hm : name ∉ fieldsOf c.kind := by simpa using hm
        simp (maxSteps := 4000000) -implicitDefEqProofs only [go_sem, vc_condC, Tryd.results25, Nat.reduceEqDiff, Nat.reduceAdd, Nat.reduceLeDiff, Nat.reduceLT, Nat.reduceMul, Nat.reduceSub, List.reduceReplicate, Int.reduceToNat, Int.reduceLT, Int.reduceLE, Int.reduceEq, Int.reduceAdd, Int.reduceSub, Int.reduceMul, Int.reduceNeg, Nat.zero_add]
        refine ⟨_, _, ?_, subH.refl _, rfl, .inr ⟨f2.trans (if_neg hm), c, rfl⟩⟩
        simp (maxSteps := 4000000) -implicitDefEqProofs only [go_sem, vc_condC, Tryd.results25, Nat.reduceEqDiff, Nat.reduceAdd, Nat.reduceLeDiff, Nat.reduceLT, Nat.reduceMul, Nat.reduceSub, List.reduceReplicate, Int.reduceToNat, Int.reduceLT, Int.reduceLE, Int.reduceEq, Int.reduceAdd, Int.reduceSub, Int.reduceMul, Int.reduceNeg, Nat.zero_add, encS]
      · have hm : name ∈ fieldsOf c.kind := by simpa using hm
        simp (maxSteps := 4000000) -implicitDefEqProofs only [go_sem, vc_condC, Tryd.results25, Nat.reduceEqDiff, Nat.reduceAdd, Nat.reduceLeDiff, Nat.reduceLT, Nat.reduceMul, Nat.reduceSub, List.reduceReplicate, Int.reduceToNat, Int.reduceLT, Int.reduceLE, Int.reduceEq, Int.reduceAdd, Int.reduceSub, Int.reduceMul, Int.reduceNeg, Nat.zero_add, encS]
        refine call_of (cset_spec H c name n hg hw) (by simp (maxSteps := 4000000) -implicitDefEqProofs only [go_sem, vc_cond, Nat.reduceEqDiff, Nat.reduceAdd, Nat.reduceLeDiff, Nat.reduceLT, Nat.reduceMul, Nat.reduceSub, List.reduceReplicate, Int.reduceToNat, Int.reduceLT, Int.reduceLE, Int.reduceEq, Int.reduceAdd, Int.reduceSub, Int.reduceMul, Int.reduceNeg, Nat.zero_add, encS]) ?_
        rw [setN_ok hm]
        have f2 := f2.trans (if_pos hm)
        generalize (c.setN name n).1 = c' at *
        simp (maxSteps := 4000000) -implicitDefEqProofs only [go_sem, vc_condC, Tryd.results25, Nat.reduceEqDiff, Nat.reduceAdd, Nat.reduceLeDiff, Nat.reduceLT, Nat.reduceMul, Nat.reduceSub, List.reduceReplicate, Int.reduceToNat, Int.reduceLT, Int.reduceLE, Int.reduceEq, Int.reduceAdd, Int.reduceSub, Int.reduceMul, Int.reduceNeg, Nat.zero_add, encS]
        refine ⟨_, _, ?_, subH.refl _, rfl, .inl ⟨c', f2, rfl⟩⟩
        simp (maxSteps := 4000000) -implicitDefEqProofs only [go_sem, vc_condC, Tryd.results25, Nat.reduceEqDiff, Nat.reduceAdd, Nat.reduceLeDiff, Nat.reduceLT, Nat.reduceMul, Nat.reduceSub, List.reduceReplicate, Int.reduceToNat, Int.reduceLT, Int.reduceLE, Int.reduceEq, Int.reduceAdd, Int.reduceSub, Int.reduceMul, Int.reduceNeg, Nat.zero_add, encS]
end Go.Ab
