import Derived.Test.YtjnkfcbbgfgmhaaDoorAdLq
set_option linter.unusedSimpArgs false
set_option linter.unusedVariables false
namespace Go.Ab
open Go Go.Ab Go.Proofs
set_option maxRecDepth 100000
theorem rin28_spec (H) (l : List (List UInt8)) (s : List UInt8) : Spec Tryd.prog 37 [texts l, D.str s] H (Ret [D.bool (decide (s ∈ l))] H) := by
  refine Spec.ofL [] Tryd.func37 rfl (by kernel_rfl) ?_
  simp (maxSteps := 4000000) -implicitDefEqProofs only [go_sem, vc_condC, Tryd.results37, Nat.reduceEqDiff, Nat.reduceAdd, Nat.reduceLeDiff, Nat.reduceLT, Nat.reduceMul, Nat.reduceSub, List.reduceReplicate, Int.reduceToNat, Int.reduceLT, Int.reduceLE, Int.reduceEq, Int.reduceAdd, Int.reduceSub, Int.reduceMul, Int.reduceNeg, Nat.zero_add]
  refine loop_of (fun (k : Nat) => { env := [(0, .d (texts l)), (1, .d (D.str s)), (5, .d (D.int k))], L := [], H := H }) (fun k => k ≤ l.length ∧ s ∉ l.take k) (fun k => l.length - k) 0 ⟨by simp, by simp⟩
    (imp_le (by simp (maxSteps := 4000000) -implicitDefEqProofs only [go_sem, vc_cond, Nat.reduceEqDiff, Nat.reduceAdd, Nat.reduceLeDiff, Nat.reduceLT, Nat.reduceMul, Nat.reduceSub, List.reduceReplicate, Int.reduceToNat, Int.reduceLT, Int.reduceLE, Int.reduceEq, Int.reduceAdd, Int.reduceSub, Int.reduceMul, Int.reduceNeg, Nat.zero_add])) fun k hk => ?_
  obtain ⟨hk, hn⟩ := hk
  simp (maxSteps := 4000000) -implicitDefEqProofs only [go_sem, vc_condC, Tryd.results37, Nat.reduceEqDiff, Nat.reduceAdd, Nat.reduceLeDiff, Nat.reduceLT, Nat.reduceMul, Nat.reduceSub, List.reduceReplicate, Int.reduceToNat, Int.reduceLT, Int.reduceLE, Int.reduceEq, Int.reduceAdd, Int.reduceSub, Int.reduceMul, Int.reduceNeg, Nat.zero_add]
  intro hm
  refine cond_of (fun h => ?_) (fun h => ?_)
  · have h : k < l.length := by simpa using h
    simp (maxSteps := 4000000) -implicitDefEqProofs only [go_sem, vc_condC, Tryd.results37, Nat.reduceEqDiff, Nat.reduceAdd, Nat.reduceLeDiff, Nat.reduceLT, Nat.reduceMul, Nat.reduceSub, List.reduceReplicate, Int.reduceToNat, Int.reduceLT, Int.reduceLE, Int.reduceEq, Int.reduceAdd, Int.reduceSub, Int.reduceMul, Int.reduceNeg, Nat.zero_add, h]
    refine cond_of (fun hb => ?_) (fun hb => ?_)
    · have : l[k] = s := by simpa using hb
      have : s ∈ l := this ▸ List.getElem_mem h
      simp (maxSteps := 4000000) -implicitDefEqProofs only [go_sem, vc_condC, Tryd.results37, Nat.reduceEqDiff, Nat.reduceAdd, Nat.reduceLeDiff, Nat.reduceLT, Nat.reduceMul, Nat.reduceSub, List.reduceReplicate, Int.reduceToNat, Int.reduceLT, Int.reduceLE, Int.reduceEq, Int.reduceAdd, Int.reduceSub, Int.reduceMul, Int.reduceNeg, Nat.zero_add]
      simp [this]
    · simp (maxSteps := 4000000) -implicitDefEqProofs only [go_sem, vc_condC, Tryd.results37, Nat.reduceEqDiff, Nat.reduceAdd, Nat.reduceLeDiff, Nat.reduceLT, Nat.reduceMul, Nat.reduceSub, List.reduceReplicate, Int.reduceToNat, Int.reduceLT, Int.reduceLE, Int.reduceEq, Int.reduceAdd, Int.reduceSub, Int.reduceMul, Int.reduceNeg, Nat.zero_add]
      refine ⟨k + 1, ⟨h, ?_⟩, by omega, ?_⟩
      · rw [List.take_succ_eq_append_getElem h]
        simp only [List.mem_append, List.mem_singleton, not_or]
        exact ⟨hn, fun e => by simp [e] at hb⟩
      · rw [wrap_i64 (by omega) (by omega)]; simp
  · have hk' : k = l.length := by simp at h; omega
    subst hk'
    rw [List.take_length] at hn
    simp (maxSteps := 4000000) -implicitDefEqProofs only [go_sem, vc_condC, Tryd.results37, Nat.reduceEqDiff, Nat.reduceAdd, Nat.reduceLeDiff, Nat.reduceLT, Nat.reduceMul, Nat.reduceSub, List.reduceReplicate, Int.reduceToNat, Int.reduceLT, Int.reduceLE, Int.reduceEq, Int.reduceAdd, Int.reduceSub, Int.reduceMul, Int.reduceNeg, Nat.zero_add]
    simp [hn]
theorem rname_spec (H : Hp) (k : Int) : Spec Tryd.prog 17 [D.int k] H (Ret [D.str (nameOf k)] H) := by
  refine Spec.ofL [] Tryd.func17 rfl (by kernel_rfl) ?_
  simp (maxSteps := 4000000) -implicitDefEqProofs only [go_sem, vc_condC, Tryd.results17, Nat.reduceEqDiff, Nat.reduceAdd, Nat.reduceLeDiff, Nat.reduceLT, Nat.reduceMul, Nat.reduceSub, List.reduceReplicate, Int.reduceToNat, Int.reduceLT, Int.reduceLE, Int.reduceEq, Int.reduceAdd, Int.reduceSub, Int.reduceMul, Int.reduceNeg, Nat.zero_add]
  refine cond_of (fun h => ?_) (fun h => ?_)
  · rw [nameOf, if_neg (by simp at h; omega)]
    simp (maxSteps := 4000000) -implicitDefEqProofs only [go_sem, vc_condC, Tryd.results17, Nat.reduceEqDiff, Nat.reduceAdd, Nat.reduceLeDiff, Nat.reduceLT, Nat.reduceMul, Nat.reduceSub, List.reduceReplicate, Int.reduceToNat, Int.reduceLT, Int.reduceLE, Int.reduceEq, Int.reduceAdd, Int.reduceSub, Int.reduceMul, Int.reduceNeg, Nat.zero_add]
  · have h : 1 ≤ k ∧ k ≤ 25 := by simp at h; omega
    rw [nameOf, if_pos h]
    obtain ⟨i, hi, rfl, e1, e2⟩ := kind_case h
    rw [e2]
    have hl : i < kindList.length := hi
    have e : kindList.getD i [] = kindList[i] := by rw [List.getD_eq_getElem?_getD, List.getElem?_eq_getElem hl]; rfl
    simp (maxSteps := 4000000) -implicitDefEqProofs only [go_sem, vc_condC, Tryd.results17, Nat.reduceEqDiff, Nat.reduceAdd, Nat.reduceLeDiff, Nat.reduceLT, Nat.reduceMul, Nat.reduceSub, List.reduceReplicate, Int.reduceToNat, Int.reduceLT, Int.reduceLE, Int.reduceEq, Int.reduceAdd, Int.reduceSub, Int.reduceMul, Int.reduceNeg, Nat.zero_add]
    refine call_of (words28_spec H) (by simp (maxSteps := 4000000) -implicitDefEqProofs only [go_sem, vc_cond, Nat.reduceEqDiff, Nat.reduceAdd, Nat.reduceLeDiff, Nat.reduceLT, Nat.reduceMul, Nat.reduceSub, List.reduceReplicate, Int.reduceToNat, Int.reduceLT, Int.reduceLE, Int.reduceEq, Int.reduceAdd, Int.reduceSub, Int.reduceMul, Int.reduceNeg, Nat.zero_add]) ?_
    rw [e]
    simp (maxSteps := 4000000) -implicitDefEqProofs only [go_sem, vc_condC, Tryd.results17, Nat.reduceEqDiff, Nat.reduceAdd, Nat.reduceLeDiff, Nat.reduceLT, Nat.reduceMul, Nat.reduceSub, List.reduceReplicate, Int.reduceToNat, Int.reduceLT, Int.reduceLE, Int.reduceEq, Int.reduceAdd, Int.reduceSub, Int.reduceMul, Int.reduceNeg, Nat.zero_add, e1, hl]
theorem rget_spec (H : Hp) (c : Cmd) (s : List UInt8) : Spec Tryd.prog 19 [c.enc, D.str s] H (Ret (getRes c (posOf s nameList)) H) := by
  refine Spec.ofL [] Tryd.func19 rfl (by kernel_rfl) ?_
  simp (maxSteps := 4000000) -implicitDefEqProofs only [go_sem, vc_condC, Tryd.results19, Nat.reduceEqDiff, Nat.reduceAdd, Nat.reduceLeDiff, Nat.reduceLT, Nat.reduceMul, Nat.reduceSub, List.reduceReplicate, Int.reduceToNat, Int.reduceLT, Int.reduceLE, Int.reduceEq, Int.reduceAdd, Int.reduceSub, Int.reduceMul, Int.reduceNeg, Nat.zero_add, encS]
  refine call_of (place28_spec H s) (by simp (maxSteps := 4000000) -implicitDefEqProofs only [go_sem, vc_cond, Nat.reduceEqDiff, Nat.reduceAdd, Nat.reduceLeDiff, Nat.reduceLT, Nat.reduceMul, Nat.reduceSub, List.reduceReplicate, Int.reduceToNat, Int.reduceLT, Int.reduceLE, Int.reduceEq, Int.reduceAdd, Int.reduceSub, Int.reduceMul, Int.reduceNeg, Nat.zero_add]) ?_
  cases hp0 : posOf s nameList with
  | none =>
    simp (maxSteps := 4000000) -implicitDefEqProofs only [go_sem, vc_condC, Tryd.results19, Nat.reduceEqDiff, Nat.reduceAdd, Nat.reduceLeDiff, Nat.reduceLT, Nat.reduceMul, Nat.reduceSub, List.reduceReplicate, Int.reduceToNat, Int.reduceLT, Int.reduceLE, Int.reduceEq, Int.reduceAdd, Int.reduceSub, Int.reduceMul, Int.reduceNeg, Nat.zero_add, posI, getRes]
  | some p =>
    obtain ⟨hp, _⟩ := posOf_lt hp0
    have hp : p < 19 := hp
    have hl : p < c.nums.length := by simp [Cmd.nums]; omega
    have hp4 : ¬ (p : Int) < 0 := by omega
    have e : c.nums[p] = c.num p := by simp [Cmd.nums]
    simp (maxSteps := 4000000) -implicitDefEqProofs only [go_sem, vc_condC, Tryd.results19, Nat.reduceEqDiff, Nat.reduceAdd, Nat.reduceLeDiff, Nat.reduceLT, Nat.reduceMul, Nat.reduceSub, List.reduceReplicate, Int.reduceToNat, Int.reduceLT, Int.reduceLE, Int.reduceEq, Int.reduceAdd, Int.reduceSub, Int.reduceMul, Int.reduceNeg, Nat.zero_add, posI, hp4]
    refine call_of (all28_spec H c) (by simp (maxSteps := 4000000) -implicitDefEqProofs only [go_sem, vc_cond, Nat.reduceEqDiff, Nat.reduceAdd, Nat.reduceLeDiff, Nat.reduceLT, Nat.reduceMul, Nat.reduceSub, List.reduceReplicate, Int.reduceToNat, Int.reduceLT, Int.reduceLE, Int.reduceEq, Int.reduceAdd, Int.reduceSub, Int.reduceMul, Int.reduceNeg, Nat.zero_add, encS]) ?_
    simp (maxSteps := 4000000) -implicitDefEqProofs only [go_sem, vc_condC, Tryd.results19, Nat.reduceEqDiff, Nat.reduceAdd, Nat.reduceLeDiff, Nat.reduceLT, Nat.reduceMul, Nat.reduceSub, List.reduceReplicate, Int.reduceToNat, Int.reduceLT, Int.reduceLE, Int.reduceEq, Int.reduceAdd, Int.reduceSub, Int.reduceMul, Int.reduceNeg, Nat.zero_add, hl, e, getRes]
theorem wrap_sum {a b : Nat} (ha : a ≤ 4294967296) (hb : b ≤ 4294967296) : IntKind.wrap .i64 ((a : Int) + b) = (a : Int) + b := wrap_i64 (by omega) (by omega)
theorem rbad (c : Cmd) :
    ((decide ((fieldsOf c.kind).length = (0 : Int)) || decide (8 < (c.gives.length : Int)) || decide (8 < (c.wants.length : Int)) || !decide (c.kind = 14) && decide (0 < (c.gives.length : Int) + c.wants.length)) = true → ¬ (fieldsOf c.kind ≠ [] ∧ listsOk c = true)) ∧
    ((decide ((fieldsOf c.kind).length = (0 : Int)) || decide (8 < (c.gives.length : Int)) || decide (8 < (c.wants.length : Int)) || !decide (c.kind = 14) && decide (0 < (c.gives.length : Int) + c.wants.length)) = false → fieldsOf c.kind ≠ [] ∧ listsOk c = true) := by
  have hf : fieldsOf c.kind ≠ [] ↔ (fieldsOf c.kind).length ≠ 0 := not_congr List.length_eq_zero_iff.symm
  have hl : listsOk c = true ↔ (c.kind = 14 ∧ c.gives.length ≤ 8 ∧ c.wants.length ≤ 8) ∨ (c.kind ≠ 14 ∧ c.gives.length = 0 ∧ c.wants.length = 0) := by
    unfold listsOk
    by_cases h : c.kind = 14
    · rw [if_pos h]; simp [h]
    · rw [if_neg h]; simp [h]
  rw [hf, hl]
  simp only [Bool.or_eq_true, Bool.and_eq_true, Bool.not_eq_true', decide_eq_true_eq, decide_eq_false_iff_not, Bool.or_eq_false_iff, Bool.and_eq_false_iff, Bool.not_eq_false']
  omega
theorem rcheck_spec (H : Hp) (c : Cmd) (hg : c.gives.length ≤ 4294967296) (hw : c.wants.length ≤ 4294967296) : Spec Tryd.prog 16 [c.enc] H (CheckQ c H) := by
  refine Spec.ofLR [] Tryd.func16 rfl (by kernel_rfl) ?_
  simp (maxSteps := 4000000) -implicitDefEqProofs only [go_sem, vc_condC, Tryd.results16, Nat.reduceEqDiff, Nat.reduceAdd, Nat.reduceLeDiff, Nat.reduceLT, Nat.reduceMul, Nat.reduceSub, List.reduceReplicate, Int.reduceToNat, Int.reduceLT, Int.reduceLE, Int.reduceEq, Int.reduceAdd, Int.reduceSub, Int.reduceMul, Int.reduceNeg, Nat.zero_add, encS]
  refine call_of (rfields_spec _ c.kind) (by simp (maxSteps := 4000000) -implicitDefEqProofs only [go_sem, vc_cond, Nat.reduceEqDiff, Nat.reduceAdd, Nat.reduceLeDiff, Nat.reduceLT, Nat.reduceMul, Nat.reduceSub, List.reduceReplicate, Int.reduceToNat, Int.reduceLT, Int.reduceLE, Int.reduceEq, Int.reduceAdd, Int.reduceSub, Int.reduceMul, Int.reduceNeg, Nat.zero_add]) ?_
  have hsum := wrap_sum hg hw
  simp (maxSteps := 4000000) -implicitDefEqProofs only [go_sem, vc_condC, Tryd.results16, Nat.reduceEqDiff, Nat.reduceAdd, Nat.reduceLeDiff, Nat.reduceLT, Nat.reduceMul, Nat.reduceSub, List.reduceReplicate, Int.reduceToNat, Int.reduceLT, Int.reduceLE, Int.reduceEq, Int.reduceAdd, Int.reduceSub, Int.reduceMul, Int.reduceNeg, Nat.zero_add, hsum]
  intro _ _ _ _ _
  obtain ⟨hb1, hb2⟩ := rbad c
  refine ⟨fun p q => ⟨p, q⟩, cond_of (fun h => ?_) (fun h => ?_)⟩
  · have hbad := hb1 h
    simp (maxSteps := 4000000) -implicitDefEqProofs only [go_sem, vc_condC, Tryd.results16, Nat.reduceEqDiff, Nat.reduceAdd, Nat.reduceLeDiff, Nat.reduceLT, Nat.reduceMul, Nat.reduceSub, List.reduceReplicate, Int.reduceToNat, Int.reduceLT, Int.reduceLE, Int.reduceEq, Int.reduceAdd, Int.reduceSub, Int.reduceMul, Int.reduceNeg, Nat.zero_add]
    refine ⟨_, _, ?_, subH.refl _, rfl, 1, .inr ⟨fun hok => hbad ⟨hok.1, hok.2.1⟩, rfl⟩, rfl⟩
    simp (maxSteps := 4000000) -implicitDefEqProofs only [go_sem, vc_condC, Tryd.results16, Nat.reduceEqDiff, Nat.reduceAdd, Nat.reduceLeDiff, Nat.reduceLT, Nat.reduceMul, Nat.reduceSub, List.reduceReplicate, Int.reduceToNat, Int.reduceLT, Int.reduceLE, Int.reduceEq, Int.reduceAdd, Int.reduceSub, Int.reduceMul, Int.reduceNeg, Nat.zero_add]
  · obtain ⟨h1, h2⟩ := hb2 h
    clear h hb1 hb2
    simp (maxSteps := 4000000) -implicitDefEqProofs only [go_sem, vc_condC, Tryd.results16, Nat.reduceEqDiff, Nat.reduceAdd, Nat.reduceLeDiff, Nat.reduceLT, Nat.reduceMul, Nat.reduceSub, List.reduceReplicate, Int.reduceToNat, Int.reduceLT, Int.reduceLE, Int.reduceEq, Int.reduceAdd, Int.reduceSub, Int.reduceMul, Int.reduceNeg, Nat.zero_add, encS]
    refine call_of (all28_spec _ c) (by simp (maxSteps := 4000000) -implicitDefEqProofs only [go_sem, vc_cond, Nat.reduceEqDiff, Nat.reduceAdd, Nat.reduceLeDiff, Nat.reduceLT, Nat.reduceMul, Nat.reduceSub, List.reduceReplicate, Int.reduceToNat, Int.reduceLT, Int.reduceLE, Int.reduceEq, Int.reduceAdd, Int.reduceSub, Int.reduceMul, Int.reduceNeg, Nat.zero_add, encS]) ?_
    simp (maxSteps := 4000000) -implicitDefEqProofs only [go_sem, vc_condC, Tryd.results16, Nat.reduceEqDiff, Nat.reduceAdd, Nat.reduceLeDiff, Nat.reduceLT, Nat.reduceMul, Nat.reduceSub, List.reduceReplicate, Int.reduceToNat, Int.reduceLT, Int.reduceLE, Int.reduceEq, Int.reduceAdd, Int.reduceSub, Int.reduceMul, Int.reduceNeg, Nat.zero_add]
    refine call_of (names28_spec _) (by simp (maxSteps := 4000000) -implicitDefEqProofs only [go_sem, vc_cond, Nat.reduceEqDiff, Nat.reduceAdd, Nat.reduceLeDiff, Nat.reduceLT, Nat.reduceMul, Nat.reduceSub, List.reduceReplicate, Int.reduceToNat, Int.reduceLT, Int.reduceLE, Int.reduceEq, Int.reduceAdd, Int.reduceSub, Int.reduceMul, Int.reduceNeg, Nat.zero_add]) ?_
    have hn19 : nameList.length = 19 := rfl
    have hc19 : c.nums.length = 19 := by simp [Cmd.nums]
    simp (maxSteps := 4000000) -implicitDefEqProofs only [go_sem, vc_condC, Tryd.results16, Nat.reduceEqDiff, Nat.reduceAdd, Nat.reduceLeDiff, Nat.reduceLT, Nat.reduceMul, Nat.reduceSub, List.reduceReplicate, Int.reduceToNat, Int.reduceLT, Int.reduceLE, Int.reduceEq, Int.reduceAdd, Int.reduceSub, Int.reduceMul, Int.reduceNeg, Nat.zero_add, hn19, hc19]
    refine loop_of (fun (k : Nat) => { env := [(3, .d (texts (fieldsOf c.kind))), (4, .d (ints c.nums)), (5, .d (texts nameList)), (6, .d (D.int k))], L := [], H := H })
      (fun k => k ≤ 19 ∧ numsOk c k) (fun k => 19 - k) 0 ⟨by omega, fun i hi => by omega⟩
      (imp_le (by simp (maxSteps := 4000000) -implicitDefEqProofs only [go_sem, vc_cond, Nat.reduceEqDiff, Nat.reduceAdd, Nat.reduceLeDiff, Nat.reduceLT, Nat.reduceMul, Nat.reduceSub, List.reduceReplicate, Int.reduceToNat, Int.reduceLT, Int.reduceLE, Int.reduceEq, Int.reduceAdd, Int.reduceSub, Int.reduceMul, Int.reduceNeg, Nat.zero_add])) fun k hk => ?_
    obtain ⟨hk, hno⟩ := hk
    simp (maxSteps := 4000000) -implicitDefEqProofs only [go_sem, vc_condC, Tryd.results16, Nat.reduceEqDiff, Nat.reduceAdd, Nat.reduceLeDiff, Nat.reduceLT, Nat.reduceMul, Nat.reduceSub, List.reduceReplicate, Int.reduceToNat, Int.reduceLT, Int.reduceLE, Int.reduceEq, Int.reduceAdd, Int.reduceSub, Int.reduceMul, Int.reduceNeg, Nat.zero_add, hn19, hc19]
    refine cond_of (fun hlt => ?_) (fun hge => ?_)
    · have hlt : k < 19 := by simp at hlt; omega
      have hl19 : k < nameList.length := hlt
      have hcl : k < c.nums.length := by omega
      have e : nameList.getD k [] = nameList[k] := by rw [List.getD_eq_getElem?_getD, List.getElem?_eq_getElem hl19]; rfl
      have e2 : c.nums[k] = c.num k := by simp [Cmd.nums]
      have hsucc : (c.num k = 0 ∨ nameList.getD k [] ∈ fieldsOf c.kind) → numsOk c (k + 1) := fun hx i hi => by
        by_cases hik : i = k
        · subst hik; exact hx
        · exact hno i (by omega)
      rw [e] at hsucc
      simp (maxSteps := 4000000) -implicitDefEqProofs only [go_sem, vc_condC, Tryd.results16, Nat.reduceEqDiff, Nat.reduceAdd, Nat.reduceLeDiff, Nat.reduceLT, Nat.reduceMul, Nat.reduceSub, List.reduceReplicate, Int.reduceToNat, Int.reduceLT, Int.reduceLE, Int.reduceEq, Int.reduceAdd, Int.reduceSub, Int.reduceMul, Int.reduceNeg, Nat.zero_add, hl19, hcl, hn19, hc19, hlt, e2]
      refine ⟨by omega, fun _ => by omega, fun hz => ⟨hz, call_of (rin28_spec _ (fieldsOf c.kind) nameList[k]) (by simp (maxSteps := 4000000) -implicitDefEqProofs only [go_sem, vc_cond, Nat.reduceEqDiff, Nat.reduceAdd, Nat.reduceLeDiff, Nat.reduceLT, Nat.reduceMul, Nat.reduceSub, List.reduceReplicate, Int.reduceToNat, Int.reduceLT, Int.reduceLE, Int.reduceEq, Int.reduceAdd, Int.reduceSub, Int.reduceMul, Int.reduceNeg, Nat.zero_add]; try rfl) ?_⟩, fun hz => ?_⟩
      · simp (maxSteps := 4000000) -implicitDefEqProofs only [go_sem, vc_condC, Tryd.results16, Nat.reduceEqDiff, Nat.reduceAdd, Nat.reduceLeDiff, Nat.reduceLT, Nat.reduceMul, Nat.reduceSub, List.reduceReplicate, Int.reduceToNat, Int.reduceLT, Int.reduceLE, Int.reduceEq, Int.reduceAdd, Int.reduceSub, Int.reduceMul, Int.reduceNeg, Nat.zero_add, hz]
        refine cond_of (fun hm => ?_) (fun hm => ?_)
        · have hm : nameList[k] ∉ fieldsOf c.kind := by simpa using hm
          simp (maxSteps := 4000000) -implicitDefEqProofs only [go_sem, vc_condC, Tryd.results16, Nat.reduceEqDiff, Nat.reduceAdd, Nat.reduceLeDiff, Nat.reduceLT, Nat.reduceMul, Nat.reduceSub, List.reduceReplicate, Int.reduceToNat, Int.reduceLT, Int.reduceLE, Int.reduceEq, Int.reduceAdd, Int.reduceSub, Int.reduceMul, Int.reduceNeg, Nat.zero_add]
          refine ⟨_, _, ?_, subH.refl _, rfl, 1, .inr ⟨?_, rfl⟩, rfl⟩
          · simp (maxSteps := 4000000) -implicitDefEqProofs only [go_sem, vc_condC, Tryd.results16, Nat.reduceEqDiff, Nat.reduceAdd, Nat.reduceLeDiff, Nat.reduceLT, Nat.reduceMul, Nat.reduceSub, List.reduceReplicate, Int.reduceToNat, Int.reduceLT, Int.reduceLE, Int.reduceEq, Int.reduceAdd, Int.reduceSub, Int.reduceMul, Int.reduceNeg, Nat.zero_add]
          · rintro ⟨_, _, h3⟩
            rcases h3 k hlt with h3 | h3
            · exact hz h3
            · rw [e] at h3; exact hm h3
        · have hm : nameList[k] ∈ fieldsOf c.kind := by simpa using hm
          simp (maxSteps := 4000000) -implicitDefEqProofs only [go_sem, vc_condC, Tryd.results16, Nat.reduceEqDiff, Nat.reduceAdd, Nat.reduceLeDiff, Nat.reduceLT, Nat.reduceMul, Nat.reduceSub, List.reduceReplicate, Int.reduceToNat, Int.reduceLT, Int.reduceLE, Int.reduceEq, Int.reduceAdd, Int.reduceSub, Int.reduceMul, Int.reduceNeg, Nat.zero_add]
          refine ⟨k + 1, ⟨hlt, hsucc (.inr hm)⟩, by omega, ?_⟩
          rw [wrap_i64 (by omega) (by omega)]; simp
      · simp (maxSteps := 4000000) -implicitDefEqProofs only [go_sem, vc_condC, Tryd.results16, Nat.reduceEqDiff, Nat.reduceAdd, Nat.reduceLeDiff, Nat.reduceLT, Nat.reduceMul, Nat.reduceSub, List.reduceReplicate, Int.reduceToNat, Int.reduceLT, Int.reduceLE, Int.reduceEq, Int.reduceAdd, Int.reduceSub, Int.reduceMul, Int.reduceNeg, Nat.zero_add, hz]
        refine ⟨k + 1, ⟨hlt, hsucc (.inl hz)⟩, by omega, ?_⟩
        rw [wrap_i64 (by omega) (by omega)]; simp
    · have hk' : k = 19 := by simp at hge; omega
      subst hk'
      simp (maxSteps := 4000000) -implicitDefEqProofs only [go_sem, vc_condC, Tryd.results16, Nat.reduceEqDiff, Nat.reduceAdd, Nat.reduceLeDiff, Nat.reduceLT, Nat.reduceMul, Nat.reduceSub, List.reduceReplicate, Int.reduceToNat, Int.reduceLT, Int.reduceLE, Int.reduceEq, Int.reduceAdd, Int.reduceSub, Int.reduceMul, Int.reduceNeg, Nat.zero_add]
      refine ⟨_, _, ?_, subH.refl _, rfl, 0, .inl ⟨⟨h1, h2, hno⟩, rfl⟩, rfl⟩
      simp (maxSteps := 4000000) -implicitDefEqProofs only [go_sem, vc_condC, Tryd.results16, Nat.reduceEqDiff, Nat.reduceAdd, Nat.reduceLeDiff, Nat.reduceLT, Nat.reduceMul, Nat.reduceSub, List.reduceReplicate, Int.reduceToNat, Int.reduceLT, Int.reduceLE, Int.reduceEq, Int.reduceAdd, Int.reduceSub, Int.reduceMul, Int.reduceNeg, Nat.zero_add]
theorem listText_snoc (l : List Stk) (s : Stk) : listText (l ++ [s]) = if l = [] then stkText s else listText l ++ 44 :: stkText s := by
  have : ∀ (xs : List (List UInt8)) (y : List UInt8), Lib.join (xs ++ [y]) [44] = if xs = [] then y else Lib.join xs [44] ++ 44 :: y := by
    intro xs
    induction xs with
    | nil => intro y; simp [join_one]
    | cons x r ih =>
      intro y
      cases r with
      | nil => simp [join_one, join_cons2]
      | cons z r =>
        have h2 := ih y
        rw [if_neg (by simp)] at h2 ⊢
        rw [List.cons_append, List.cons_append, join_cons2, ← List.cons_append, h2, join_cons2]
        simp
  unfold listText
  rw [List.map_append, List.map_cons, List.map_nil, this]
  simp
theorem rlist_spec (H : Hp) (l : List Stk) (hl : l.length ≤ 4294967296) (hr : ∀ s ∈ l, s.inR) : Spec Tryd.prog 21 [encS l] H (Ret [D.str (listText l)] H) := by
  refine Spec.ofLJ [] Tryd.func21 rfl (by kernel_rfl) ?_
  simp (maxSteps := 4000000) -implicitDefEqProofs only [go_sem, vc_condC, Tryd.results21, Nat.reduceEqDiff, Nat.reduceAdd, Nat.reduceLeDiff, Nat.reduceLT, Nat.reduceMul, Nat.reduceSub, List.reduceReplicate, Int.reduceToNat, Int.reduceLT, Int.reduceLE, Int.reduceEq, Int.reduceAdd, Int.reduceSub, Int.reduceMul, Int.reduceNeg, Nat.zero_add, encS]
  refine loop_of (fun (k : Nat) => { env := [(0, .d (encS l)), (3, .d (D.str (listText (l.take k)))), (4, .d (D.int k))], L := [], H := H, J := true })
    (fun k => k ≤ l.length) (fun k => l.length - k) 0 (by simp)
    (imp_le (by simp (maxSteps := 4000000) -implicitDefEqProofs only [go_sem, vc_cond, Nat.reduceEqDiff, Nat.reduceAdd, Nat.reduceLeDiff, Nat.reduceLT, Nat.reduceMul, Nat.reduceSub, List.reduceReplicate, Int.reduceToNat, Int.reduceLT, Int.reduceLE, Int.reduceEq, Int.reduceAdd, Int.reduceSub, Int.reduceMul, Int.reduceNeg, Nat.zero_add, encS]; try rfl)) fun k hk => ?_
  have hlen : (listText (l.take k)).length ≤ k * 44 := by
    have := listText_le (l := l.take k) fun s hs => hr s (List.mem_of_mem_take hs)
    rw [List.length_take] at this
    have h2 : min k l.length ≤ k := Nat.min_le_left _ _
    have := Nat.le_trans this (Nat.mul_le_mul_right 44 h2)
    exact this
  simp (maxSteps := 4000000) -implicitDefEqProofs only [go_sem, vc_condC, Tryd.results21, Nat.reduceEqDiff, Nat.reduceAdd, Nat.reduceLeDiff, Nat.reduceLT, Nat.reduceMul, Nat.reduceSub, List.reduceReplicate, Int.reduceToNat, Int.reduceLT, Int.reduceLE, Int.reduceEq, Int.reduceAdd, Int.reduceSub, Int.reduceMul, Int.reduceNeg, Nat.zero_add, encS]
  intro _
  refine cond_of (fun hlt => ?_) (fun hge => ?_)
  · have hlt : k < l.length := by simpa using hlt
    have hs := hr l[k] (List.getElem_mem hlt)
    have h1 := itoa_le hs.1
    have h2 := itoa_le hs.2
    have hsn : listText (l.take (k + 1)) = if l.take k = [] then stkText l[k] else listText (l.take k) ++ 44 :: stkText l[k] := by
      rw [List.take_succ_eq_append_getElem hlt, listText_snoc]
    have hstk : stkText l[k] = Lib.itoa l[k].t ++ [120] ++ Lib.itoa l[k].q := rfl
    simp (maxSteps := 4000000) -implicitDefEqProofs only [go_sem, vc_condC, Tryd.results21, Nat.reduceEqDiff, Nat.reduceAdd, Nat.reduceLeDiff, Nat.reduceLT, Nat.reduceMul, Nat.reduceSub, List.reduceReplicate, Int.reduceToNat, Int.reduceLT, Int.reduceLE, Int.reduceEq, Int.reduceAdd, Int.reduceSub, Int.reduceMul, Int.reduceNeg, Nat.zero_add]
    refine cond_join { env := [(0, .d (encS l)), (3, .d (D.str (if k = 0 then [] else listText (l.take k) ++ [44]))), (4, .d (D.int k))], L := [], H := H, J := true } rfl (fun h => ?_) (fun h => ?_) ?_
    · have h : ¬ k = 0 := by simp at h; omega
      simp (maxSteps := 4000000) -implicitDefEqProofs only [go_sem, vc_condC, Tryd.results21, Nat.reduceEqDiff, Nat.reduceAdd, Nat.reduceLeDiff, Nat.reduceLT, Nat.reduceMul, Nat.reduceSub, List.reduceReplicate, Int.reduceToNat, Int.reduceLT, Int.reduceLE, Int.reduceEq, Int.reduceAdd, Int.reduceSub, Int.reduceMul, Int.reduceNeg, Nat.zero_add, h, encS]
      omega
    · have h : k = 0 := by simp at h; omega
      subst h
      simp (maxSteps := 4000000) -implicitDefEqProofs only [go_sem, vc_condC, Tryd.results21, Nat.reduceEqDiff, Nat.reduceAdd, Nat.reduceLeDiff, Nat.reduceLT, Nat.reduceMul, Nat.reduceSub, List.reduceReplicate, Int.reduceToNat, Int.reduceLT, Int.reduceLE, Int.reduceEq, Int.reduceAdd, Int.reduceSub, Int.reduceMul, Int.reduceNeg, Nat.zero_add, encS]
      rfl
    · have hnew : listText (l.take (k + 1)) = (if k = 0 then [] else listText (l.take k) ++ [44]) ++ Lib.itoa l[k].t ++ [120] ++ Lib.itoa l[k].q := by
        rw [hsn, hstk]
        by_cases h : k = 0
        · subst h; simp
        · have : l.take k ≠ [] := fun e => by
            have hm : min k l.length = 0 := by rw [← List.length_take, e]; rfl
            omega
          rw [if_neg this, if_neg h]; simp
      have hpl : (if k = 0 then [] else listText (l.take k) ++ [44]).length ≤ k * 44 + 1 := by
        split
        · simp
        · rw [List.length_append, List.length_singleton]; omega
      generalize (if k = 0 then [] else listText (l.take k) ++ [44]) = pre at *
      simp (maxSteps := 4000000) -implicitDefEqProofs only [go_sem, vc_condC, Tryd.results21, Nat.reduceEqDiff, Nat.reduceAdd, Nat.reduceLeDiff, Nat.reduceLT, Nat.reduceMul, Nat.reduceSub, List.reduceReplicate, Int.reduceToNat, Int.reduceLT, Int.reduceLE, Int.reduceEq, Int.reduceAdd, Int.reduceSub, Int.reduceMul, Int.reduceNeg, Nat.zero_add]
      refine draw_of 16 [(21, [D.str (Lib.itoa l[k].t)]), (29, [D.str (Lib.itoa l[k].q)])] (by kernel_rfl) ?_
      simp (maxSteps := 4000000) -implicitDefEqProofs only [go_sem, vc_condC, Tryd.results21, Nat.reduceEqDiff, Nat.reduceAdd, Nat.reduceLeDiff, Nat.reduceLT, Nat.reduceMul, Nat.reduceSub, List.reduceReplicate, Int.reduceToNat, Int.reduceLT, Int.reduceLE, Int.reduceEq, Int.reduceAdd, Int.reduceSub, Int.reduceMul, Int.reduceNeg, Nat.zero_add, hlt, encS, Stk.enc]
      have hpre : (pre ++ Lib.itoa l[k].t).length ≤ k * 44 + 22 := by rw [List.length_append]; omega
      have hpre2 : (pre ++ Lib.itoa l[k].t ++ [120]).length ≤ k * 44 + 23 := by rw [List.length_append, List.length_singleton]; omega
      refine ⟨numText_spec _ _ _ (Nat.le_refl _) hs.1.1 hs.1.2, by omega, by omega, numText_spec _ _ _ (Nat.le_refl _) hs.2.1 hs.2.2, by omega, k + 1, hlt, by omega, hnew.symm, ?_⟩
      rw [wrap_i64 (by omega) (by omega)]; simp
  · have hk' : k = l.length := by simp at hge; omega
    subst hk'
    rw [List.take_length]
    simp (maxSteps := 4000000) -implicitDefEqProofs only [go_sem, vc_condC, Tryd.results21, Nat.reduceEqDiff, Nat.reduceAdd, Nat.reduceLeDiff, Nat.reduceLT, Nat.reduceMul, Nat.reduceSub, List.reduceReplicate, Int.reduceToNat, Int.reduceLT, Int.reduceLE, Int.reduceEq, Int.reduceAdd, Int.reduceSub, Int.reduceMul, Int.reduceNeg, Nat.zero_add]
end Go.Ab
