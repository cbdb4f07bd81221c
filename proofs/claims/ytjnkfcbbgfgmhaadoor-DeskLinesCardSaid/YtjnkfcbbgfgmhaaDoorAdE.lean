import Derived.Test.YtjnkfcbbgfgmhaaDoorAdD2
set_option linter.unusedSimpArgs false
set_option linter.unusedVariables false
namespace Go.Ab
open Go Go.Ab Go.Proofs
set_option maxRecDepth 100000
def listsOk (c : Cmd) : Bool := if c.kind = 14 then decide (c.gives.length ≤ 8) && decide (c.wants.length ≤ 8) else decide (c.gives = []) && decide (c.wants = [])
def numsOk (c : Cmd) (n : Nat) : Prop := ∀ i, i < n → c.num i = 0 ∨ nameList.getD i [] ∈ fieldsOf c.kind
/-- Has a command no fields but those of its kind? -/
def checkOk (c : Cmd) : Prop := fieldsOf c.kind ≠ [] ∧ listsOk c = true ∧ numsOk c 19
def checkRes (c : Cmd) (e : Int) : Prop := (checkOk c ∧ e = 0) ∨ (¬ checkOk c ∧ e = 1)
def CheckQ (c : Cmd) (H : Hp) (rs : List D) (H' : Hp) : Prop := H' = H ∧ ∃ e, checkRes c e ∧ rs = [D.int e]
theorem posOf_self {k : Nat} (h : k < 19) : posOf (nameList.getD k []) nameList = some k := by
  have : k = 0 ∨ k = 1 ∨ k = 2 ∨ k = 3 ∨ k = 4 ∨ k = 5 ∨ k = 6 ∨ k = 7 ∨ k = 8 ∨ k = 9 ∨ k = 10 ∨ k = 11 ∨ k = 12 ∨ k = 13 ∨ k = 14 ∨ k = 15 ∨ k = 16 ∨ k = 17 ∨ k = 18 := by omega
  rcases this with rfl | rfl | rfl | rfl | rfl | rfl | rfl | rfl | rfl | rfl | rfl | rfl | rfl | rfl | rfl | rfl | rfl | rfl | rfl <;> decide
theorem numbers_fields : Lib.fields numbersText = nameList := by rfl
theorem check_spec (H : Hp) (c : Cmd) (hg : c.gives.length ≤ 4294967296) (hw : c.wants.length ≤ 4294967296) : Spec Tryd.prog 10 [c.enc] H (CheckQ c H) := by
  refine Spec.ofLRJ [1] Tryd.func10 rfl (by kernel_rfl) ?_
  simp (maxSteps := 4000000) -implicitDefEqProofs only [go_sem, vc_condC, Tryd.results10, Nat.reduceEqDiff, Nat.reduceAdd, Nat.reduceLeDiff, Nat.reduceLT, Nat.reduceMul, Nat.reduceSub, List.reduceReplicate, Int.reduceToNat, Int.reduceLT, Int.reduceLE, Int.reduceEq, Int.reduceAdd, Int.reduceSub, Int.reduceMul, Int.reduceNeg, Nat.zero_add, encS]
  intro b hb
  refine call_of (fields_spec _ c.kind) (by simp (maxSteps := 4000000) -implicitDefEqProofs only [go_sem, vc_cond, Nat.reduceEqDiff, Nat.reduceAdd, Nat.reduceLeDiff, Nat.reduceLT, Nat.reduceMul, Nat.reduceSub, List.reduceReplicate, Int.reduceToNat, Int.reduceLT, Int.reduceLE, Int.reduceEq, Int.reduceAdd, Int.reduceSub, Int.reduceMul, Int.reduceNeg, Nat.zero_add]) ?_
  simp (maxSteps := 4000000) -implicitDefEqProofs only [go_sem, vc_condC, Tryd.results10, Nat.reduceEqDiff, Nat.reduceAdd, Nat.reduceLeDiff, Nat.reduceLT, Nat.reduceMul, Nat.reduceSub, List.reduceReplicate, Int.reduceToNat, Int.reduceLT, Int.reduceLE, Int.reduceEq, Int.reduceAdd, Int.reduceSub, Int.reduceMul, Int.reduceNeg, Nat.zero_add]
  intro _ _
  refine cond_join { env := [(1, ptrV b), (2, .d (D.int 0)), (3, .d (texts (fieldsOf c.kind))), (4, .d (D.bool (listsOk c)))], L := [], H := upd H b (.cells c.enc.cells), J := true } rfl (fun h => ?_) (fun h => ?_) ?_
  · have h : ¬ c.kind = 14 := by simpa using h
    have e : listsOk c = decide (IntKind.i64.wrap ((c.gives.length : Int) + c.wants.length) = 0) := by
      unfold listsOk
      rw [if_neg h, wrap_i64 (by omega) (by omega), Bool.eq_iff_iff]
      simp only [Bool.and_eq_true, decide_eq_true_eq]
      rw [← List.length_eq_zero_iff, ← List.length_eq_zero_iff]
      omega
    simp (maxSteps := 4000000) -implicitDefEqProofs only [go_sem, vc_condC, Tryd.results10, Nat.reduceEqDiff, Nat.reduceAdd, Nat.reduceLeDiff, Nat.reduceLT, Nat.reduceMul, Nat.reduceSub, List.reduceReplicate, Int.reduceToNat, Int.reduceLT, Int.reduceLE, Int.reduceEq, Int.reduceAdd, Int.reduceSub, Int.reduceMul, Int.reduceNeg, Nat.zero_add, e, encS]
  · have h : c.kind = 14 := by simpa using h
    have e : listsOk c = (decide ((c.gives.length : Int) ≤ 8) && decide ((c.wants.length : Int) ≤ 8)) := by
      unfold listsOk
      rw [if_pos h, Bool.eq_iff_iff]
      simp only [Bool.and_eq_true, decide_eq_true_eq]
      omega
    simp (maxSteps := 4000000) -implicitDefEqProofs only [go_sem, vc_condC, Tryd.results10, Nat.reduceEqDiff, Nat.reduceAdd, Nat.reduceLeDiff, Nat.reduceLT, Nat.reduceMul, Nat.reduceSub, List.reduceReplicate, Int.reduceToNat, Int.reduceLT, Int.reduceLE, Int.reduceEq, Int.reduceAdd, Int.reduceSub, Int.reduceMul, Int.reduceNeg, Nat.zero_add, e, encS]
  · simp (maxSteps := 4000000) -implicitDefEqProofs only [go_sem, vc_condC, Tryd.results10, Nat.reduceEqDiff, Nat.reduceAdd, Nat.reduceLeDiff, Nat.reduceLT, Nat.reduceMul, Nat.reduceSub, List.reduceReplicate, Int.reduceToNat, Int.reduceLT, Int.reduceLE, Int.reduceEq, Int.reduceAdd, Int.reduceSub, Int.reduceMul, Int.reduceNeg, Nat.zero_add]
    intro _
    refine cond_of (fun h => ?_) (fun h => ?_)
    · simp (maxSteps := 4000000) -implicitDefEqProofs only [go_sem, vc_condC, Tryd.results10, Nat.reduceEqDiff, Nat.reduceAdd, Nat.reduceLeDiff, Nat.reduceLT, Nat.reduceMul, Nat.reduceSub, List.reduceReplicate, Int.reduceToNat, Int.reduceLT, Int.reduceLE, Int.reduceEq, Int.reduceAdd, Int.reduceSub, Int.reduceMul, Int.reduceNeg, Nat.zero_add]
      refine ⟨_, _, ?_, ?_, rfl, 1, .inr ⟨?_, rfl⟩, rfl⟩
      · simp (maxSteps := 4000000) -implicitDefEqProofs only [go_sem, vc_condC, Tryd.results10, Nat.reduceEqDiff, Nat.reduceAdd, Nat.reduceLeDiff, Nat.reduceLT, Nat.reduceMul, Nat.reduceSub, List.reduceReplicate, Int.reduceToNat, Int.reduceLT, Int.reduceLE, Int.reduceEq, Int.reduceAdd, Int.reduceSub, Int.reduceMul, Int.reduceNeg, Nat.zero_add]
      · exact subH_new hb
      · rintro ⟨h1, h2, _⟩
        simp only [h2, Bool.not_true, Bool.or_false, decide_eq_true_eq] at h
        exact h1 (List.length_eq_zero_iff.1 (by omega))
    · have h1 : fieldsOf c.kind ≠ [] := fun e => by simp [e] at h
      have h2 : listsOk c = true := by
        cases hl : listsOk c with
        | true => rfl
        | false => simp [hl] at h
      simp (maxSteps := 4000000) -implicitDefEqProofs only [go_sem, vc_condC, Tryd.results10, Nat.reduceEqDiff, Nat.reduceAdd, Nat.reduceLeDiff, Nat.reduceLT, Nat.reduceMul, Nat.reduceSub, List.reduceReplicate, Int.reduceToNat, Int.reduceLT, Int.reduceLE, Int.reduceEq, Int.reduceAdd, Int.reduceSub, Int.reduceMul, Int.reduceNeg, Nat.zero_add]
      refine call_of (sfields_spec _ numbersText (by decide) (by decide)) (by simp (maxSteps := 4000000) -implicitDefEqProofs only [go_sem, vc_cond, Nat.reduceEqDiff, Nat.reduceAdd, Nat.reduceLeDiff, Nat.reduceLT, Nat.reduceMul, Nat.reduceSub, List.reduceReplicate, Int.reduceToNat, Int.reduceLT, Int.reduceLE, Int.reduceEq, Int.reduceAdd, Int.reduceSub, Int.reduceMul, Int.reduceNeg, Nat.zero_add]; try rfl) ?_
      rw [numbers_fields]
      have hn19 : nameList.length = 19 := rfl
      simp (maxSteps := 4000000) -implicitDefEqProofs only [go_sem, vc_condC, Tryd.results10, Nat.reduceEqDiff, Nat.reduceAdd, Nat.reduceLeDiff, Nat.reduceLT, Nat.reduceMul, Nat.reduceSub, List.reduceReplicate, Int.reduceToNat, Int.reduceLT, Int.reduceLE, Int.reduceEq, Int.reduceAdd, Int.reduceSub, Int.reduceMul, Int.reduceNeg, Nat.zero_add, hn19]
      refine loop_of (fun (k : Nat) => { env := [(1, ptrV b), (3, .d (texts (fieldsOf c.kind))), (38, .d (.sl 1 true (nameList.map D.str))), (39, .d (D.int 19)), (40, .d (D.int k))], L := [], H := upd H b (.cells [D.int c.kind, D.int (c.num 0), D.int (c.num 1), D.int (c.num 2), D.int (c.num 3), D.int (c.num 4), D.int (c.num 5), D.int (c.num 6), D.int (c.num 7), D.int (c.num 8), D.int (c.num 9),
  D.int (c.num 10), D.int (c.num 11), D.int (c.num 12), D.int (c.num 13), D.int (c.num 14), D.int (c.num 15), D.int (c.num 16), D.int (c.num 17), D.int (c.num 18), encS c.gives, encS c.wants]) })
        (fun k => k ≤ 19 ∧ numsOk c k) (fun k => 19 - k) 0 ⟨by omega, fun i hi => by omega⟩
        (imp_le (by simp (maxSteps := 4000000) -implicitDefEqProofs only [go_sem, vc_cond, Nat.reduceEqDiff, Nat.reduceAdd, Nat.reduceLeDiff, Nat.reduceLT, Nat.reduceMul, Nat.reduceSub, List.reduceReplicate, Int.reduceToNat, Int.reduceLT, Int.reduceLE, Int.reduceEq, Int.reduceAdd, Int.reduceSub, Int.reduceMul, Int.reduceNeg, Nat.zero_add])) fun k hk => ?_
      obtain ⟨hk, hno⟩ := hk
      simp (maxSteps := 4000000) -implicitDefEqProofs only [go_sem, vc_condC, Tryd.results10, Nat.reduceEqDiff, Nat.reduceAdd, Nat.reduceLeDiff, Nat.reduceLT, Nat.reduceMul, Nat.reduceSub, List.reduceReplicate, Int.reduceToNat, Int.reduceLT, Int.reduceLE, Int.reduceEq, Int.reduceAdd, Int.reduceSub, Int.reduceMul, Int.reduceNeg, Nat.zero_add]
      refine cond_of (fun hlt => ?_) (fun hge => ?_)
      · have hlt : k < 19 := by simp at hlt; omega
        have hl19 : k < nameList.length := hlt
        have e : nameList.getD k [] = nameList[k] := by rw [List.getD_eq_getElem?_getD, List.getElem?_eq_getElem hl19]; rfl
        simp (maxSteps := 4000000) -implicitDefEqProofs only [go_sem, vc_condC, Tryd.results10, Nat.reduceEqDiff, Nat.reduceAdd, Nat.reduceLeDiff, Nat.reduceLT, Nat.reduceMul, Nat.reduceSub, List.reduceReplicate, Int.reduceToNat, Int.reduceLT, Int.reduceLE, Int.reduceEq, Int.reduceAdd, Int.reduceSub, Int.reduceMul, Int.reduceNeg, Nat.zero_add, hl19]
        refine call_of (cfield_spec _ b _ nameList[k] (upd_same ..) rfl) (by simp (maxSteps := 4000000) -implicitDefEqProofs only [go_sem, vc_cond, Nat.reduceEqDiff, Nat.reduceAdd, Nat.reduceLeDiff, Nat.reduceLT, Nat.reduceMul, Nat.reduceSub, List.reduceReplicate, Int.reduceToNat, Int.reduceLT, Int.reduceLE, Int.reduceEq, Int.reduceAdd, Int.reduceSub, Int.reduceMul, Int.reduceNeg, Nat.zero_add]) ?_
        rw [← e, posOf_self hlt]
        have hgt := boxed_get c.num (encS c.gives) (encS c.wants) k hlt
        simp (maxSteps := 4000000) -implicitDefEqProofs only [go_sem, vc_condC, Tryd.results10, Nat.reduceEqDiff, Nat.reduceAdd, Nat.reduceLeDiff, Nat.reduceLT, Nat.reduceMul, Nat.reduceSub, List.reduceReplicate, Int.reduceToNat, Int.reduceLT, Int.reduceLE, Int.reduceEq, Int.reduceAdd, Int.reduceSub, Int.reduceMul, Int.reduceNeg, Nat.zero_add, fieldPtr, hgt]
        have hsucc : (c.num k = 0 ∨ nameList.getD k [] ∈ fieldsOf c.kind) → numsOk c (k + 1) := fun hx i hi => by
          by_cases hik : i = k
          · subst hik; exact hx
          · exact hno i (by omega)
        refine ⟨fun hz => ⟨hz, call_of (contains_spec _ (fieldsOf c.kind) false (nameList.getD k [])) (by simp (maxSteps := 4000000) -implicitDefEqProofs only [go_sem, vc_cond, Nat.reduceEqDiff, Nat.reduceAdd, Nat.reduceLeDiff, Nat.reduceLT, Nat.reduceMul, Nat.reduceSub, List.reduceReplicate, Int.reduceToNat, Int.reduceLT, Int.reduceLE, Int.reduceEq, Int.reduceAdd, Int.reduceSub, Int.reduceMul, Int.reduceNeg, Nat.zero_add]) ?_⟩, fun hz => ?_⟩
        · simp (maxSteps := 4000000) -implicitDefEqProofs only [go_sem, vc_condC, Tryd.results10, Nat.reduceEqDiff, Nat.reduceAdd, Nat.reduceLeDiff, Nat.reduceLT, Nat.reduceMul, Nat.reduceSub, List.reduceReplicate, Int.reduceToNat, Int.reduceLT, Int.reduceLE, Int.reduceEq, Int.reduceAdd, Int.reduceSub, Int.reduceMul, Int.reduceNeg, Nat.zero_add, hz]
          refine cond_of (fun hm => ?_) (fun hm => ?_)
          · have hm : nameList.getD k [] ∉ fieldsOf c.kind := by simpa using hm
            simp (maxSteps := 4000000) -implicitDefEqProofs only [go_sem, vc_condC, Tryd.results10, Nat.reduceEqDiff, Nat.reduceAdd, Nat.reduceLeDiff, Nat.reduceLT, Nat.reduceMul, Nat.reduceSub, List.reduceReplicate, Int.reduceToNat, Int.reduceLT, Int.reduceLE, Int.reduceEq, Int.reduceAdd, Int.reduceSub, Int.reduceMul, Int.reduceNeg, Nat.zero_add]
            refine ⟨_, _, ?_, ?_, rfl, 1, .inr ⟨?_, rfl⟩, rfl⟩
            · simp (maxSteps := 4000000) -implicitDefEqProofs only [go_sem, vc_condC, Tryd.results10, Nat.reduceEqDiff, Nat.reduceAdd, Nat.reduceLeDiff, Nat.reduceLT, Nat.reduceMul, Nat.reduceSub, List.reduceReplicate, Int.reduceToNat, Int.reduceLT, Int.reduceLE, Int.reduceEq, Int.reduceAdd, Int.reduceSub, Int.reduceMul, Int.reduceNeg, Nat.zero_add]
            · exact subH_new hb
            · rintro ⟨_, _, h3⟩
              rcases h3 k hlt with h3 | h3
              · exact hz h3
              · exact hm h3
          · have hm : nameList.getD k [] ∈ fieldsOf c.kind := by simpa using hm
            simp (maxSteps := 4000000) -implicitDefEqProofs only [go_sem, vc_condC, Tryd.results10, Nat.reduceEqDiff, Nat.reduceAdd, Nat.reduceLeDiff, Nat.reduceLT, Nat.reduceMul, Nat.reduceSub, List.reduceReplicate, Int.reduceToNat, Int.reduceLT, Int.reduceLE, Int.reduceEq, Int.reduceAdd, Int.reduceSub, Int.reduceMul, Int.reduceNeg, Nat.zero_add]
            refine ⟨k + 1, ⟨hlt, hsucc (.inr hm)⟩, by omega, ?_⟩
            rw [wrap_i64 (by omega) (by omega)]; simp
        · simp (maxSteps := 4000000) -implicitDefEqProofs only [go_sem, vc_condC, Tryd.results10, Nat.reduceEqDiff, Nat.reduceAdd, Nat.reduceLeDiff, Nat.reduceLT, Nat.reduceMul, Nat.reduceSub, List.reduceReplicate, Int.reduceToNat, Int.reduceLT, Int.reduceLE, Int.reduceEq, Int.reduceAdd, Int.reduceSub, Int.reduceMul, Int.reduceNeg, Nat.zero_add, hz]
          refine ⟨k + 1, ⟨hlt, hsucc (.inl hz)⟩, by omega, ?_⟩
          rw [wrap_i64 (by omega) (by omega)]; simp
      · have hk' : k = 19 := by simp at hge; omega
        subst hk'
        simp (maxSteps := 4000000) -implicitDefEqProofs only [go_sem, vc_condC, Tryd.results10, Nat.reduceEqDiff, Nat.reduceAdd, Nat.reduceLeDiff, Nat.reduceLT, Nat.reduceMul, Nat.reduceSub, List.reduceReplicate, Int.reduceToNat, Int.reduceLT, Int.reduceLE, Int.reduceEq, Int.reduceAdd, Int.reduceSub, Int.reduceMul, Int.reduceNeg, Nat.zero_add]
        refine ⟨_, _, ?_, ?_, rfl, 0, .inl ⟨⟨h1, h2, hno⟩, rfl⟩, rfl⟩
        · simp (maxSteps := 4000000) -implicitDefEqProofs only [go_sem, vc_condC, Tryd.results10, Nat.reduceEqDiff, Nat.reduceAdd, Nat.reduceLeDiff, Nat.reduceLT, Nat.reduceMul, Nat.reduceSub, List.reduceReplicate, Int.reduceToNat, Int.reduceLT, Int.reduceLE, Int.reduceEq, Int.reduceAdd, Int.reduceSub, Int.reduceMul, Int.reduceNeg, Nat.zero_add]
        · exact subH_new hb
end Go.Ab
