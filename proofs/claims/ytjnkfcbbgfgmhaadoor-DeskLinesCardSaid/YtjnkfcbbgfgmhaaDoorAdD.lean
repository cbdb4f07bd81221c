import Derived.Test.YtjnkfcbbgfgmhaaDoorAdK
set_option linter.unusedSimpArgs false
set_option linter.unusedVariables false
namespace Go.Ab
open Go Go.Ab Go.Proofs
set_option maxRecDepth 100000
def numRes (o : Option Int) : List D := match o with | some n => [D.int n, D.bool true] | none => [D.int 0, D.bool false]
theorem number_spec (H : Hp) (s : List UInt8) (hs : s.length ≤ 281474976710656) : Spec Tryd.prog 9 [D.str s] H (Ret (numRes (numOf s)) H) := by
  refine Spec.ofL [] Tryd.func9 rfl (by kernel_rfl) ?_
  simp (maxSteps := 4000000) -implicitDefEqProofs only [go_sem, vc_condC, Tryd.results9, Nat.reduceEqDiff, Nat.reduceAdd, Nat.reduceLeDiff, Nat.reduceLT, Nat.reduceMul, Nat.reduceSub, List.reduceReplicate, Int.reduceToNat, Int.reduceLT, Int.reduceLE, Int.reduceEq, Int.reduceAdd, Int.reduceSub, Int.reduceMul, Int.reduceNeg, Nat.zero_add]
  refine call_ofR (parseInt_spec H s hs) (by simp (maxSteps := 4000000) -implicitDefEqProofs only [go_sem, vc_cond, Nat.reduceEqDiff, Nat.reduceAdd, Nat.reduceLeDiff, Nat.reduceLT, Nat.reduceMul, Nat.reduceSub, List.reduceReplicate, Int.reduceToNat, Int.reduceLT, Int.reduceLE, Int.reduceEq, Int.reduceAdd, Int.reduceSub, Int.reduceMul, Int.reduceNeg, Nat.zero_add]) ?_
  rw [numOf_parse]
  rintro rs H' ⟨⟨v, hv, rfl⟩ | ⟨hv, n, t, p, rfl⟩, rfl⟩
  · rw [hv]
    have hb := Lib.parseIntB_bounds hv
    have e : (2 : Nat) ^ (64 - 1) = 9223372036854775808 := by decide
    rw [e] at hb
    simp (maxSteps := 4000000) -implicitDefEqProofs only [go_sem, vc_condC, Tryd.results9, Nat.reduceEqDiff, Nat.reduceAdd, Nat.reduceLeDiff, Nat.reduceLT, Nat.reduceMul, Nat.reduceSub, List.reduceReplicate, Int.reduceToNat, Int.reduceLT, Int.reduceLE, Int.reduceEq, Int.reduceAdd, Int.reduceSub, Int.reduceMul, Int.reduceNeg, Nat.zero_add]
    refine call_of (formatInt_spec _ v (by omega) (by omega)) (by simp (maxSteps := 4000000) -implicitDefEqProofs only [go_sem, vc_cond, Nat.reduceEqDiff, Nat.reduceAdd, Nat.reduceLeDiff, Nat.reduceLT, Nat.reduceMul, Nat.reduceSub, List.reduceReplicate, Int.reduceToNat, Int.reduceLT, Int.reduceLE, Int.reduceEq, Int.reduceAdd, Int.reduceSub, Int.reduceMul, Int.reduceNeg, Nat.zero_add]) ?_
    simp (maxSteps := 4000000) -implicitDefEqProofs only [go_sem, vc_condC, Tryd.results9, Nat.reduceEqDiff, Nat.reduceAdd, Nat.reduceLeDiff, Nat.reduceLT, Nat.reduceMul, Nat.reduceSub, List.reduceReplicate, Int.reduceToNat, Int.reduceLT, Int.reduceLE, Int.reduceEq, Int.reduceAdd, Int.reduceSub, Int.reduceMul, Int.reduceNeg, Nat.zero_add]
    refine cond_of (fun h => ?_) (fun h => ?_)
    · rw [if_neg (by simpa using h)]
      simp (maxSteps := 4000000) -implicitDefEqProofs only [go_sem, vc_condC, Tryd.results9, Nat.reduceEqDiff, Nat.reduceAdd, Nat.reduceLeDiff, Nat.reduceLT, Nat.reduceMul, Nat.reduceSub, List.reduceReplicate, Int.reduceToNat, Int.reduceLT, Int.reduceLE, Int.reduceEq, Int.reduceAdd, Int.reduceSub, Int.reduceMul, Int.reduceNeg, Nat.zero_add, numRes]
    · rw [if_pos (by simpa using h)]
      simp (maxSteps := 4000000) -implicitDefEqProofs only [go_sem, vc_condC, Tryd.results9, Nat.reduceEqDiff, Nat.reduceAdd, Nat.reduceLeDiff, Nat.reduceLT, Nat.reduceMul, Nat.reduceSub, List.reduceReplicate, Int.reduceToNat, Int.reduceLT, Int.reduceLE, Int.reduceEq, Int.reduceAdd, Int.reduceSub, Int.reduceMul, Int.reduceNeg, Nat.zero_add, numRes]
  · have : (match Lib.parseIntB 64 s with | .ok v => if Lib.itoa v = s then some v else none | _ => none : Option Int) = none := by
      cases h : Lib.parseIntB 64 s with
      | ok v => exact absurd h (hv v)
      | _ => rfl
    simp (maxSteps := 4000000) -implicitDefEqProofs only [go_sem, vc_condC, Tryd.results9, Nat.reduceEqDiff, Nat.reduceAdd, Nat.reduceLeDiff, Nat.reduceLT, Nat.reduceMul, Nat.reduceSub, List.reduceReplicate, Int.reduceToNat, Int.reduceLT, Int.reduceLE, Int.reduceEq, Int.reduceAdd, Int.reduceSub, Int.reduceMul, Int.reduceNeg, Nat.zero_add]
    simp (maxSteps := 4000000) -implicitDefEqProofs only [go_sem, vc_condC, Tryd.results9, Nat.reduceEqDiff, Nat.reduceAdd, Nat.reduceLeDiff, Nat.reduceLT, Nat.reduceMul, Nat.reduceSub, List.reduceReplicate, Int.reduceToNat, Int.reduceLT, Int.reduceLE, Int.reduceEq, Int.reduceAdd, Int.reduceSub, Int.reduceMul, Int.reduceNeg, Nat.zero_add, numRes]
theorem number_rel (s : List UInt8) : (∀ n, numOf s = some n → isNum s n) ∧ (numOf s = none → ∀ n, ¬ isNum s n) := ⟨fun n h => numOf_iff.1 h, fun h n hn => by rw [numOf_iff.2 hn] at h; cases h⟩
def stksRes (o : Option (List Stk)) : List D := match o with | some l => [encS l, D.bool true] | none => [.sl 0 true [], D.bool false]
theorem stkAll_len : ∀ {ps : List (List UInt8)} {l : List Stk}, stkAll ps = some l → l.length = ps.length := fun {ps l} h => allStk_len (stkAll_iff.1 h)
theorem stkAll_none {ps : List (List UInt8)} {k : Nat} (hk : k < ps.length) (h : stkOf ps[k] = none) : stkAll ps = none := by
  cases hn : stkAll ps with
  | none => rfl
  | some l =>
    obtain ⟨x, hx⟩ := allStk_get (stkAll_iff.1 hn) hk
    rw [stkOf_iff.2 hx] at h; cases h
theorem cutAt_no (b : UInt8) : ∀ (l : List UInt8), (cutAt b l).2.2 = false → (cutAt b l).2.1 = []
  | [], _ => rfl
  | x :: r, h => by
    rw [cutAt] at h ⊢
    split
    · rename_i e; rw [if_pos e] at h; cases h
    · rename_i e; rw [if_neg e] at h; exact cutAt_no b r h
theorem numOf_nil : numOf [] = none := numOf_none fun _ h => isNum_nil h
theorem stkOf_nums (p : List UInt8) : stkOf p = match numOf (cutAt 120 p).1, numOf (cutAt 120 p).2.1 with | some n, some m => some ⟨n, m⟩ | _, _ => none := by
  unfold stkOf
  split
  · rfl
  · rename_i h
    rw [cutAt_no 120 p (by simpa using h), numOf_nil]
    cases numOf (cutAt 120 p).1 <;> rfl
theorem stacks_spec (H : Hp) (s : List UInt8) (hs : s.length < 4294967281) : Spec Tryd.prog 41 [D.str s] H (Ret (stksRes (stksOf s)) H) := by
  refine Spec.ofL [] Tryd.func41 rfl (by kernel_rfl) ?_
  unfold stksOf
  have hlens := splitAcc_lens 44 s
  simp (maxSteps := 4000000) -implicitDefEqProofs only [go_sem, vc_condC, Tryd.results41, Nat.reduceEqDiff, Nat.reduceAdd, Nat.reduceLeDiff, Nat.reduceLT, Nat.reduceMul, Nat.reduceSub, List.reduceReplicate, Int.reduceToNat, Int.reduceLT, Int.reduceLE, Int.reduceEq, Int.reduceAdd, Int.reduceSub, Int.reduceMul, Int.reduceNeg, Nat.zero_add]
  refine call_of (ssplit_spec H s 44 hs) (by simp (maxSteps := 4000000) -implicitDefEqProofs only [go_sem, vc_cond, Nat.reduceEqDiff, Nat.reduceAdd, Nat.reduceLeDiff, Nat.reduceLT, Nat.reduceMul, Nat.reduceSub, List.reduceReplicate, Int.reduceToNat, Int.reduceLT, Int.reduceLE, Int.reduceEq, Int.reduceAdd, Int.reduceSub, Int.reduceMul, Int.reduceNeg, Nat.zero_add]; try rfl) ?_
  generalize splitAcc 44 [] s = ps at *
  simp (maxSteps := 4000000) -implicitDefEqProofs only [go_sem, vc_condC, Tryd.results41, Nat.reduceEqDiff, Nat.reduceAdd, Nat.reduceLeDiff, Nat.reduceLT, Nat.reduceMul, Nat.reduceSub, List.reduceReplicate, Int.reduceToNat, Int.reduceLT, Int.reduceLE, Int.reduceEq, Int.reduceAdd, Int.reduceSub, Int.reduceMul, Int.reduceNeg, Nat.zero_add]
  intro hm
  refine cond_of (fun h => ?_) (fun h => ?_)
  · rw [stksOfP_none (.inr (by simp at h; omega))]
    simp (maxSteps := 4000000) -implicitDefEqProofs only [go_sem, vc_condC, Tryd.results41, Nat.reduceEqDiff, Nat.reduceAdd, Nat.reduceLeDiff, Nat.reduceLT, Nat.reduceMul, Nat.reduceSub, List.reduceReplicate, Int.reduceToNat, Int.reduceLT, Int.reduceLE, Int.reduceEq, Int.reduceAdd, Int.reduceSub, Int.reduceMul, Int.reduceNeg, Nat.zero_add, stksRes]
  · have h8 : ps.length ≤ 8 := by simp at h; omega
    simp (maxSteps := 4000000) -implicitDefEqProofs only [go_sem, vc_condC, Tryd.results41, Nat.reduceEqDiff, Nat.reduceAdd, Nat.reduceLeDiff, Nat.reduceLT, Nat.reduceMul, Nat.reduceSub, List.reduceReplicate, Int.reduceToNat, Int.reduceLT, Int.reduceLE, Int.reduceEq, Int.reduceAdd, Int.reduceSub, Int.reduceMul, Int.reduceNeg, Nat.zero_add]
    intro _
    refine loop_of (fun (x : Nat × List Stk) => { env := [(20, .d (.sl 1 true (ps.map D.str))), (21, .d (D.int ps.length)), (22, .d (D.int x.1)), (5, .row 53)], L := [(53, .row 2 true (x.2.map Stk.enc))], H := H })
      (fun x => x.1 ≤ ps.length ∧ stkAll (ps.take x.1) = some x.2) (fun x => ps.length - x.1) (0, []) ⟨by simp, rfl⟩
      ((imp_adopt _ 5 53 2 true rfl rfl).trans (imp_le (by simp (maxSteps := 4000000) -implicitDefEqProofs only [go_sem, vc_cond, Nat.reduceEqDiff, Nat.reduceAdd, Nat.reduceLeDiff, Nat.reduceLT, Nat.reduceMul, Nat.reduceSub, List.reduceReplicate, Int.reduceToNat, Int.reduceLT, Int.reduceLE, Int.reduceEq, Int.reduceAdd, Int.reduceSub, Int.reduceMul, Int.reduceNeg, Nat.zero_add]))) fun ⟨k, out⟩ hx => ?_
    obtain ⟨hk, ho⟩ := hx
    simp only at hk ho
    simp (maxSteps := 4000000) -implicitDefEqProofs only [go_sem, vc_condC, Tryd.results41, Nat.reduceEqDiff, Nat.reduceAdd, Nat.reduceLeDiff, Nat.reduceLT, Nat.reduceMul, Nat.reduceSub, List.reduceReplicate, Int.reduceToNat, Int.reduceLT, Int.reduceLE, Int.reduceEq, Int.reduceAdd, Int.reduceSub, Int.reduceMul, Int.reduceNeg, Nat.zero_add]
    refine cond_of (fun hlt => ?_) (fun hge => ?_)
    · have hlt : k < ps.length := by simpa using hlt
      have hl1 := hlens ps[k] (List.getElem_mem hlt)
      have hl2 := cutAt_fst_le 120 ps[k]
      have hst := stkOf_nums ps[k]
      have hno := @stkAll_none ps k hlt
      have hout : out.length = k := by
        have := stkAll_len ho
        rw [this, List.length_take]; omega
      simp (maxSteps := 4000000) -implicitDefEqProofs only [go_sem, vc_condC, Tryd.results41, Nat.reduceEqDiff, Nat.reduceAdd, Nat.reduceLeDiff, Nat.reduceLT, Nat.reduceMul, Nat.reduceSub, List.reduceReplicate, Int.reduceToNat, Int.reduceLT, Int.reduceLE, Int.reduceEq, Int.reduceAdd, Int.reduceSub, Int.reduceMul, Int.reduceNeg, Nat.zero_add, hlt]
      refine call_of (scut_spec H ps[k] 120 (by omega)) (by simp (maxSteps := 4000000) -implicitDefEqProofs only [go_sem, vc_cond, Nat.reduceEqDiff, Nat.reduceAdd, Nat.reduceLeDiff, Nat.reduceLT, Nat.reduceMul, Nat.reduceSub, List.reduceReplicate, Int.reduceToNat, Int.reduceLT, Int.reduceLE, Int.reduceEq, Int.reduceAdd, Int.reduceSub, Int.reduceMul, Int.reduceNeg, Nat.zero_add]; try rfl) ?_
      simp (maxSteps := 4000000) -implicitDefEqProofs only [go_sem, vc_condC, Tryd.results41, Nat.reduceEqDiff, Nat.reduceAdd, Nat.reduceLeDiff, Nat.reduceLT, Nat.reduceMul, Nat.reduceSub, List.reduceReplicate, Int.reduceToNat, Int.reduceLT, Int.reduceLE, Int.reduceEq, Int.reduceAdd, Int.reduceSub, Int.reduceMul, Int.reduceNeg, Nat.zero_add]
      refine call_of (number_spec H (cutAt 120 ps[k]).1 (by omega)) (by simp (maxSteps := 4000000) -implicitDefEqProofs only [go_sem, vc_cond, Nat.reduceEqDiff, Nat.reduceAdd, Nat.reduceLeDiff, Nat.reduceLT, Nat.reduceMul, Nat.reduceSub, List.reduceReplicate, Int.reduceToNat, Int.reduceLT, Int.reduceLE, Int.reduceEq, Int.reduceAdd, Int.reduceSub, Int.reduceMul, Int.reduceNeg, Nat.zero_add]) ?_
      generalize numOf (cutAt 120 ps[k]).1 = n1 at *
      generalize (cutAt 120 ps[k]).1 = t1 at *
      cases n1 with
      | none =>
        rw [stksOfP_none (.inl (hno (by rw [hst])))]
        simp (maxSteps := 4000000) -implicitDefEqProofs only [go_sem, vc_condC, Tryd.results41, Nat.reduceEqDiff, Nat.reduceAdd, Nat.reduceLeDiff, Nat.reduceLT, Nat.reduceMul, Nat.reduceSub, List.reduceReplicate, Int.reduceToNat, Int.reduceLT, Int.reduceLE, Int.reduceEq, Int.reduceAdd, Int.reduceSub, Int.reduceMul, Int.reduceNeg, Nat.zero_add, numRes]
        refine call_of (number_spec H (cutAt 120 ps[k]).2.1 (by omega)) (by simp (maxSteps := 4000000) -implicitDefEqProofs only [go_sem, vc_cond, Nat.reduceEqDiff, Nat.reduceAdd, Nat.reduceLeDiff, Nat.reduceLT, Nat.reduceMul, Nat.reduceSub, List.reduceReplicate, Int.reduceToNat, Int.reduceLT, Int.reduceLE, Int.reduceEq, Int.reduceAdd, Int.reduceSub, Int.reduceMul, Int.reduceNeg, Nat.zero_add]) ?_
        cases numOf (cutAt 120 ps[k]).2.1 with
        | none => simp (maxSteps := 4000000) -implicitDefEqProofs only [go_sem, vc_condC, Tryd.results41, Nat.reduceEqDiff, Nat.reduceAdd, Nat.reduceLeDiff, Nat.reduceLT, Nat.reduceMul, Nat.reduceSub, List.reduceReplicate, Int.reduceToNat, Int.reduceLT, Int.reduceLE, Int.reduceEq, Int.reduceAdd, Int.reduceSub, Int.reduceMul, Int.reduceNeg, Nat.zero_add, numRes, stksRes]
        | some m => simp (maxSteps := 4000000) -implicitDefEqProofs only [go_sem, vc_condC, Tryd.results41, Nat.reduceEqDiff, Nat.reduceAdd, Nat.reduceLeDiff, Nat.reduceLT, Nat.reduceMul, Nat.reduceSub, List.reduceReplicate, Int.reduceToNat, Int.reduceLT, Int.reduceLE, Int.reduceEq, Int.reduceAdd, Int.reduceSub, Int.reduceMul, Int.reduceNeg, Nat.zero_add, numRes, stksRes]
      | some n =>
        simp (maxSteps := 4000000) -implicitDefEqProofs only [go_sem, vc_condC, Tryd.results41, Nat.reduceEqDiff, Nat.reduceAdd, Nat.reduceLeDiff, Nat.reduceLT, Nat.reduceMul, Nat.reduceSub, List.reduceReplicate, Int.reduceToNat, Int.reduceLT, Int.reduceLE, Int.reduceEq, Int.reduceAdd, Int.reduceSub, Int.reduceMul, Int.reduceNeg, Nat.zero_add, numRes]
        refine call_of (number_spec H (cutAt 120 ps[k]).2.1 (by omega)) (by simp (maxSteps := 4000000) -implicitDefEqProofs only [go_sem, vc_cond, Nat.reduceEqDiff, Nat.reduceAdd, Nat.reduceLeDiff, Nat.reduceLT, Nat.reduceMul, Nat.reduceSub, List.reduceReplicate, Int.reduceToNat, Int.reduceLT, Int.reduceLE, Int.reduceEq, Int.reduceAdd, Int.reduceSub, Int.reduceMul, Int.reduceNeg, Nat.zero_add]) ?_
        generalize numOf (cutAt 120 ps[k]).2.1 = n2 at *
        cases n2 with
        | none =>
          rw [stksOfP_none (.inl (hno (by rw [hst])))]
          simp (maxSteps := 4000000) -implicitDefEqProofs only [go_sem, vc_condC, Tryd.results41, Nat.reduceEqDiff, Nat.reduceAdd, Nat.reduceLeDiff, Nat.reduceLT, Nat.reduceMul, Nat.reduceSub, List.reduceReplicate, Int.reduceToNat, Int.reduceLT, Int.reduceLE, Int.reduceEq, Int.reduceAdd, Int.reduceSub, Int.reduceMul, Int.reduceNeg, Nat.zero_add, numRes, stksRes]
        | some m =>
          simp (maxSteps := 4000000) -implicitDefEqProofs only [go_sem, vc_condC, Tryd.results41, Nat.reduceEqDiff, Nat.reduceAdd, Nat.reduceLeDiff, Nat.reduceLT, Nat.reduceMul, Nat.reduceSub, List.reduceReplicate, Int.reduceToNat, Int.reduceLT, Int.reduceLE, Int.reduceEq, Int.reduceAdd, Int.reduceSub, Int.reduceMul, Int.reduceNeg, Nat.zero_add, numRes]
          refine ⟨by omega, (k + 1, out ++ [⟨n, m⟩]), ⟨hlt, ?_⟩, by simp only; omega, ?_⟩
          · simp only
            rw [stkAll_iff, List.take_succ_eq_append_getElem hlt]
            exact allStk_snoc (stkAll_iff.1 ho) (stkOf_iff.1 hst)
          · rw [wrap_i64 (by omega) (by omega)]
            simp (maxSteps := 4000000) -implicitDefEqProofs only [go_sem, vc_condC, Tryd.results41, Nat.reduceEqDiff, Nat.reduceAdd, Nat.reduceLeDiff, Nat.reduceLT, Nat.reduceMul, Nat.reduceSub, List.reduceReplicate, Int.reduceToNat, Int.reduceLT, Int.reduceLE, Int.reduceEq, Int.reduceAdd, Int.reduceSub, Int.reduceMul, Int.reduceNeg, Nat.zero_add, List.map_append, Stk.enc]
            simp
    · have hk' : k = ps.length := by simp at hge; omega
      subst hk'
      rw [List.take_length] at ho
      rw [stksOfP_some ho h8]
      simp (maxSteps := 4000000) -implicitDefEqProofs only [go_sem, vc_condC, Tryd.results41, Nat.reduceEqDiff, Nat.reduceAdd, Nat.reduceLeDiff, Nat.reduceLT, Nat.reduceMul, Nat.reduceSub, List.reduceReplicate, Int.reduceToNat, Int.reduceLT, Int.reduceLE, Int.reduceEq, Int.reduceAdd, Int.reduceSub, Int.reduceMul, Int.reduceNeg, Nat.zero_add, stksRes, encS]
end Go.Ab
