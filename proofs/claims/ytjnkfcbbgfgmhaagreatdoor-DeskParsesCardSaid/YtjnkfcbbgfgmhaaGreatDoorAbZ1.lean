import Derived.Test.YtjnkfcbbgfgmhaaGreatDoorAbZ0
set_option linter.unusedSimpArgs false
set_option linter.unusedVariables false
namespace Go.Ab
open Go Go.Ab Go.Proofs
set_option maxRecDepth 100000

/-- What stands ahead of the first byte b, and what behind it. -/
def cutAt (b : UInt8) : List UInt8 → List UInt8 × List UInt8 × Bool
  | [] => ([], [], false)
  | x :: r => if x = b then ([], r, true) else (x :: (cutAt b r).1, (cutAt b r).2.1, (cutAt b r).2.2)
theorem cutAt_none {b : UInt8} : ∀ {l : List UInt8}, b ∉ l → cutAt b l = (l, [], false)
  | [], _ => rfl
  | x :: r, h => by
    simp only [List.mem_cons, not_or] at h
    rw [cutAt, if_neg (Ne.symm h.1), cutAt_none h.2]
theorem cutAt_some {b : UInt8} : ∀ {l : List UInt8} {k : Nat}, b ∉ l.take k → (h : k < l.length) → l[k] = b → cutAt b l = (l.take k, l.drop (k + 1), true)
  | x :: r, 0, _, _, he => by
    simp only [List.getElem_cons_zero] at he
    rw [cutAt, if_pos he]; rfl
  | x :: r, k + 1, hn, h, he => by
    simp only [List.take_succ_cons, List.mem_cons, not_or] at hn
    rw [cutAt, if_neg (Ne.symm hn.1), cutAt_some hn.2 (by simpa using h) (by simpa using he)]; rfl
theorem byteEq (a b : UInt8) : ((a.toNat : Int) = (b.toNat : Int)) = (a = b) := by
  apply propext; constructor
  · intro h; exact UInt8.toNat_inj.1 (by omega)
  · intro h; rw [h]
theorem getD_lt {l : List UInt8} {k : Nat} (h : k < l.length) : l.getD k 0 = l[k] := by
  rw [List.getD_eq_getElem?_getD, List.getElem?_eq_getElem h]; rfl

theorem rcut_spec (H) (l : List UInt8) (b : UInt8) : Spec Tryz.prog 20 [D.str l, D.byte b] H (Ret [D.str (cutAt b l).1, D.str (cutAt b l).2.1, D.bool (cutAt b l).2.2] H) := by
  refine Spec.of [] Tryz.func20 rfl (by kernel_rfl) ?_
  simp (maxSteps := 4000000) -implicitDefEqProofs only [go_sem, vc_cond, Tryz.results20, Nat.reduceEqDiff, Nat.reduceAdd, Nat.reduceLeDiff, Nat.reduceLT, Nat.reduceMul, Nat.reduceSub, List.reduceReplicate, Int.reduceToNat, Int.reduceLT, Int.reduceLE, Int.reduceEq, Int.reduceAdd, Int.reduceSub, Int.reduceMul, Int.reduceNeg, Nat.zero_add]
  refine loop_of (fun (k : Nat) => { env := [(0, .d (D.str l)), (1, .d (D.byte b)), (4, .d (D.str [])), (5, .d (D.str [])), (6, .d (D.bool false)), (7, .d (D.int k))], L := [], H := H }) (fun k => k ≤ l.length ∧ b ∉ l.take k) (fun k => l.length - k) 0 ⟨by simp, by simp⟩
    (imp_le (by simp (maxSteps := 4000000) -implicitDefEqProofs only [go_sem, vc_cond, Nat.reduceEqDiff, Nat.reduceAdd, Nat.reduceLeDiff, Nat.reduceLT, Nat.reduceMul, Nat.reduceSub, List.reduceReplicate, Int.reduceToNat, Int.reduceLT, Int.reduceLE, Int.reduceEq, Int.reduceAdd, Int.reduceSub, Int.reduceMul, Int.reduceNeg, Nat.zero_add]; try simp)) fun k hk => ?_
  obtain ⟨hk, hn⟩ := hk
  simp (maxSteps := 4000000) -implicitDefEqProofs only [go_sem, vc_cond, Tryz.results20, Nat.reduceEqDiff, Nat.reduceAdd, Nat.reduceLeDiff, Nat.reduceLT, Nat.reduceMul, Nat.reduceSub, List.reduceReplicate, Int.reduceToNat, Int.reduceLT, Int.reduceLE, Int.reduceEq, Int.reduceAdd, Int.reduceSub, Int.reduceMul, Int.reduceNeg, Nat.zero_add]
  intro hm
  refine ⟨fun h => ?_, fun h => ?_⟩
  · refine ⟨by omega, fun hb => ?_, fun hb => ?_⟩
    · refine draw_of 10 [] (by kernel_rfl) ?_
      simp (maxSteps := 4000000) -implicitDefEqProofs only [go_sem, vc_cond, Tryz.results20, Nat.reduceEqDiff, Nat.reduceAdd, Nat.reduceLeDiff, Nat.reduceLT, Nat.reduceMul, Nat.reduceSub, List.reduceReplicate, Int.reduceToNat, Int.reduceLT, Int.reduceLE, Int.reduceEq, Int.reduceAdd, Int.reduceSub, Int.reduceMul, Int.reduceNeg, Nat.zero_add]
      have e1 := getD_lt h
      rw [e1] at hb
      rw [cutAt_some hn h (UInt8.toNat_inj.1 (by omega)), wrap_i64 (by omega) (by omega)]
      have e2 : ((k : Int) + 1).toNat = k + 1 := by omega
      rw [e2]
      exact ⟨by omega, ⟨by omega, by omega⟩, rfl, rfl, rfl⟩
    · refine ⟨k + 1, ⟨h, ?_⟩, by omega, ?_⟩
      · rw [List.take_succ_eq_append_getElem h]
        simp only [List.mem_append, List.mem_singleton, not_or]
        refine ⟨hn, fun e => hb ?_⟩
        rw [getD_lt h, e]
      · rw [wrap_i64 (by omega) (by omega)]; simp
  · have hk' : k = l.length := by omega
    subst hk'
    rw [List.take_length] at hn
    rw [cutAt_none hn]
    simp

theorem rin_spec (H) (l : List (List UInt8)) (s : List UInt8) : Spec Tryz.prog 21 [texts l, D.str s] H (Ret [D.bool (decide (s ∈ l))] H) := by
  refine Spec.of [] Tryz.func21 rfl (by kernel_rfl) ?_
  simp (maxSteps := 4000000) -implicitDefEqProofs only [go_sem, vc_cond, Tryz.results21, Nat.reduceEqDiff, Nat.reduceAdd, Nat.reduceLeDiff, Nat.reduceLT, Nat.reduceMul, Nat.reduceSub, List.reduceReplicate, Int.reduceToNat, Int.reduceLT, Int.reduceLE, Int.reduceEq, Int.reduceAdd, Int.reduceSub, Int.reduceMul, Int.reduceNeg, Nat.zero_add]
  refine loop_of (fun (k : Nat) => { env := [(0, .d (texts l)), (1, .d (D.str s)), (4, .d (D.bool false)), (5, .d (D.int k))], L := [], H := H }) (fun k => k ≤ l.length ∧ s ∉ l.take k) (fun k => l.length - k) 0 ⟨by simp, by simp⟩
    (imp_le (by simp (maxSteps := 4000000) -implicitDefEqProofs only [go_sem, vc_cond, Nat.reduceEqDiff, Nat.reduceAdd, Nat.reduceLeDiff, Nat.reduceLT, Nat.reduceMul, Nat.reduceSub, List.reduceReplicate, Int.reduceToNat, Int.reduceLT, Int.reduceLE, Int.reduceEq, Int.reduceAdd, Int.reduceSub, Int.reduceMul, Int.reduceNeg, Nat.zero_add]; try simp)) fun k hk => ?_
  obtain ⟨hk, hn⟩ := hk
  simp (maxSteps := 4000000) -implicitDefEqProofs only [go_sem, vc_cond, Tryz.results21, Nat.reduceEqDiff, Nat.reduceAdd, Nat.reduceLeDiff, Nat.reduceLT, Nat.reduceMul, Nat.reduceSub, List.reduceReplicate, Int.reduceToNat, Int.reduceLT, Int.reduceLE, Int.reduceEq, Int.reduceAdd, Int.reduceSub, Int.reduceMul, Int.reduceNeg, Nat.zero_add]
  intro hm
  refine ⟨fun h => ?_, fun h => ?_⟩
  · simp (maxSteps := 4000000) -implicitDefEqProofs only [go_sem, vc_cond, Tryz.results21, Nat.reduceEqDiff, Nat.reduceAdd, Nat.reduceLeDiff, Nat.reduceLT, Nat.reduceMul, Nat.reduceSub, List.reduceReplicate, Int.reduceToNat, Int.reduceLT, Int.reduceLE, Int.reduceEq, Int.reduceAdd, Int.reduceSub, Int.reduceMul, Int.reduceNeg, Nat.zero_add, h]
    refine ⟨fun hb => ?_, fun hb => ?_⟩
    · have : l[k] = s := by simpa using hb
      have : s ∈ l := this ▸ List.getElem_mem h
      simp [this]
    · refine ⟨k + 1, ⟨h, ?_⟩, by omega, ?_⟩
      · rw [List.take_succ_eq_append_getElem h]
        simp only [List.mem_append, List.mem_singleton, not_or]
        exact ⟨hn, fun e => by simp [e] at hb⟩
      · rw [wrap_i64 (by omega) (by omega)]; simp
  · have hk' : k = l.length := by omega
    subst hk'
    rw [List.take_length] at hn
    simp [hn]

/-- The parts of a text between bytes b. -/
def splitAcc (b : UInt8) (part : List UInt8) : List UInt8 → List (List UInt8)
  | [] => [part]
  | x :: r => if x = b then part :: splitAcc b [] r else splitAcc b (part ++ [x]) r

theorem rsplit_spec (H) (l : List UInt8) (b : UInt8) (hl : l.length < 4294967281) : Spec Tryz.prog 28 [D.str l, D.byte b] H (Ret [texts (splitAcc b [] l)] H) := by
  refine Spec.of [] Tryz.func28 rfl (by kernel_rfl) ?_
  simp (maxSteps := 4000000) -implicitDefEqProofs only [go_sem, vc_cond, Tryz.results28, Nat.reduceEqDiff, Nat.reduceAdd, Nat.reduceLeDiff, Nat.reduceLT, Nat.reduceMul, Nat.reduceSub, List.reduceReplicate, Int.reduceToNat, Int.reduceLT, Int.reduceLE, Int.reduceEq, Int.reduceAdd, Int.reduceSub, Int.reduceMul, Int.reduceNeg, Nat.zero_add]
  refine loop_of (fun (x : Nat × List (List UInt8) × List UInt8) => { env := [(0, .d (D.str l)), (1, .d (D.byte b)), (5, .row 22), (6, .d (D.str x.2.2)), (7, .d (D.int x.1))], L := [(22, .row 1 true (x.2.1.map D.str))], H := H })
    (fun x => x.1 ≤ l.length ∧ x.2.1.length ≤ x.1 ∧ x.2.2.length ≤ x.1 ∧ x.2.1 ++ splitAcc b x.2.2 (l.drop x.1) = splitAcc b [] l) (fun x => l.length - x.1) (0, [], []) ⟨by simp, by simp, by simp, by simp⟩
    ((imp_adopt _ 5 22 1 true rfl rfl).trans (imp_le (by simp (maxSteps := 4000000) -implicitDefEqProofs only [go_sem, vc_cond, Nat.reduceEqDiff, Nat.reduceAdd, Nat.reduceLeDiff, Nat.reduceLT, Nat.reduceMul, Nat.reduceSub, List.reduceReplicate, Int.reduceToNat, Int.reduceLT, Int.reduceLE, Int.reduceEq, Int.reduceAdd, Int.reduceSub, Int.reduceMul, Int.reduceNeg, Nat.zero_add]; try simp))) fun ⟨k, out, part⟩ hx => ?_
  obtain ⟨hk, ho, hp, hs⟩ := hx
  simp only at hk ho hp hs
  simp (maxSteps := 4000000) -implicitDefEqProofs only [go_sem, vc_cond, Tryz.results28, Nat.reduceEqDiff, Nat.reduceAdd, Nat.reduceLeDiff, Nat.reduceLT, Nat.reduceMul, Nat.reduceSub, List.reduceReplicate, Int.reduceToNat, Int.reduceLT, Int.reduceLE, Int.reduceEq, Int.reduceAdd, Int.reduceSub, Int.reduceMul, Int.reduceNeg, Nat.zero_add]
  intro hm
  refine ⟨fun h => ?_, fun h => ?_⟩
  · refine ⟨by omega, fun hb => ?_, fun hb => ?_⟩
    · rw [wrap_i64 (by omega) (by omega)]
      refine ⟨by omega, (k + 1, out ++ [part], []), ⟨h, by simp; omega, by simp, ?_⟩, by simp only; omega, ?_⟩
      · rw [List.append_assoc, List.singleton_append]
        rw [List.drop_eq_getElem_cons h, splitAcc, if_pos (UInt8.toNat_inj.1 (by rw [getD_lt h] at hb; omega))] at hs
        exact hs
      · simp
    · rw [wrap_i64 (by omega) (by omega)]
      have e2 : ((k : Int) + 1).toNat - k = 1 := by omega
      rw [e2, List.drop_eq_getElem_cons h, List.take_succ_cons, List.take_zero]
      refine ⟨⟨by omega, by omega⟩, by simp; omega, (k + 1, out, part ++ [l[k]]), ⟨h, by simp only; omega, by simp; omega, ?_⟩, by simp only; omega, ?_⟩
      · rw [List.drop_eq_getElem_cons h, splitAcc, if_neg (fun e => hb (by rw [getD_lt h, e]))] at hs
        exact hs
      · simp
  · have hk' : k = l.length := by omega
    subst hk'
    rw [List.drop_length, splitAcc] at hs
    exact ⟨by omega, .inl hs⟩

theorem splitAcc_ne (b : UInt8) : ∀ (l p : List UInt8), splitAcc b p l ≠ []
  | [], p => by simp [splitAcc]
  | x :: r, p => by
    rw [splitAcc]; split
    · simp
    · exact splitAcc_ne b r _
theorem splitAcc_len (b : UInt8) : ∀ (l p : List UInt8), (splitAcc b p l).length ≤ l.length + 1
  | [], p => by simp [splitAcc]
  | x :: r, p => by
    rw [splitAcc]; split
    · have := splitAcc_len b r []; simp only [List.length_cons]; omega
    · have := splitAcc_len b r (p ++ [x]); simp only [List.length_cons]; omega
def ne0 : List UInt8 → Bool
  | [] => false
  | _ :: _ => true
theorem ne0_of {l : List UInt8} (h : l ≠ []) : ne0 l = true := by cases l; exact absurd rfl h; rfl
/-- The words of a text: what stands between blanks. -/
def wordsOf (l : List UInt8) : List (List UInt8) := (splitAcc 32 [] l).filter ne0

theorem rwords_spec (H) (l : List UInt8) (hl : l.length < 4294967281) : Spec Tryz.prog 18 [D.str l] H (Ret [texts (wordsOf l)] H) := by
  unfold wordsOf
  refine Spec.of [] Tryz.func18 rfl (by kernel_rfl) ?_
  simp (maxSteps := 4000000) -implicitDefEqProofs only [go_sem, vc_cond, Tryz.results18, Nat.reduceEqDiff, Nat.reduceAdd, Nat.reduceLeDiff, Nat.reduceLT, Nat.reduceMul, Nat.reduceSub, List.reduceReplicate, Int.reduceToNat, Int.reduceLT, Int.reduceLE, Int.reduceEq, Int.reduceAdd, Int.reduceSub, Int.reduceMul, Int.reduceNeg, Nat.zero_add]
  refine call_of (rsplit_spec H l 32 hl) (by simp (maxSteps := 4000000) -implicitDefEqProofs only [go_sem, vc_cond, Nat.reduceEqDiff, Nat.reduceAdd, Nat.reduceLeDiff, Nat.reduceLT, Nat.reduceMul, Nat.reduceSub, List.reduceReplicate, Int.reduceToNat, Int.reduceLT, Int.reduceLE, Int.reduceEq, Int.reduceAdd, Int.reduceSub, Int.reduceMul, Int.reduceNeg, Nat.zero_add]; try simp) ?_
  simp (maxSteps := 4000000) -implicitDefEqProofs only [go_sem, vc_cond, Tryz.results18, Nat.reduceEqDiff, Nat.reduceAdd, Nat.reduceLeDiff, Nat.reduceLT, Nat.reduceMul, Nat.reduceSub, List.reduceReplicate, Int.reduceToNat, Int.reduceLT, Int.reduceLE, Int.reduceEq, Int.reduceAdd, Int.reduceSub, Int.reduceMul, Int.reduceNeg, Nat.zero_add]
  have hne := splitAcc_len 32 l []
  generalize splitAcc 32 [] l = ws at *
  refine loop_of (fun (k : Nat) => { env := [(3, .d (texts ws)), (4, .row 25), (5, .d (D.int k))], L := [(25, .row 1 true (((ws.take k).filter ne0).map D.str))], H := H })
    (fun k => k ≤ ws.length) (fun k => ws.length - k) 0 (by simp)
    ((imp_adopt _ 4 25 1 true rfl rfl).trans (imp_le (by simp (maxSteps := 4000000) -implicitDefEqProofs only [go_sem, vc_cond, Nat.reduceEqDiff, Nat.reduceAdd, Nat.reduceLeDiff, Nat.reduceLT, Nat.reduceMul, Nat.reduceSub, List.reduceReplicate, Int.reduceToNat, Int.reduceLT, Int.reduceLE, Int.reduceEq, Int.reduceAdd, Int.reduceSub, Int.reduceMul, Int.reduceNeg, Nat.zero_add]; try simp))) fun k hk => ?_
  simp (maxSteps := 4000000) -implicitDefEqProofs only [go_sem, vc_cond, Tryz.results18, Nat.reduceEqDiff, Nat.reduceAdd, Nat.reduceLeDiff, Nat.reduceLT, Nat.reduceMul, Nat.reduceSub, List.reduceReplicate, Int.reduceToNat, Int.reduceLT, Int.reduceLE, Int.reduceEq, Int.reduceAdd, Int.reduceSub, Int.reduceMul, Int.reduceNeg, Nat.zero_add]
  intro hm
  refine ⟨fun h => ?_, fun h => ?_⟩
  · simp (maxSteps := 4000000) -implicitDefEqProofs only [go_sem, vc_cond, Tryz.results18, Nat.reduceEqDiff, Nat.reduceAdd, Nat.reduceLeDiff, Nat.reduceLT, Nat.reduceMul, Nat.reduceSub, List.reduceReplicate, Int.reduceToNat, Int.reduceLT, Int.reduceLE, Int.reduceEq, Int.reduceAdd, Int.reduceSub, Int.reduceMul, Int.reduceNeg, Nat.zero_add, h]
    refine ⟨fun hb => ?_, fun hb => ?_⟩
    · have h2 : ((ws.take k).filter ne0).length ≤ k := by
        refine Nat.le_trans (List.length_filter_le _ _) ?_
        rw [List.length_take]; omega
      refine ⟨by omega, k + 1, h, by omega, ?_⟩
      rw [wrap_i64 (by omega) (by omega), List.take_succ_eq_append_getElem h, List.filter_append]
      have : ne0 ws[k] = true := ne0_of fun e => by simp [e] at hb
      simp [this]
    · refine ⟨k + 1, h, by omega, ?_⟩
      rw [wrap_i64 (by omega) (by omega), List.take_succ_eq_append_getElem h, List.filter_append]
      have : ws[k] = [] := by simpa using hb
      simp [this, ne0]
  · have hk' : k = ws.length := by omega
    subst hk'
    rw [List.take_length]
    exact .inl rfl
end Go.Ab
