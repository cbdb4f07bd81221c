import Derived.Test.YtjnkfcbbgfgmhaaDoorAdD1
set_option linter.unusedSimpArgs false
set_option linter.unusedVariables false
namespace Go.Ab
open Go Go.Ab Go.Proofs
set_option maxRecDepth 100000
def seenMap (l : List (List UInt8)) : List (D × D) := l.map fun s => (D.str s, D.bool true)
theorem keyIn_seen (a : List UInt8) : ∀ (l : List (List UInt8)), keyIn (D.str a) (seenMap l) = some ((posOf a l).map fun i => (i, D.bool true))
  | [] => rfl
  | x :: r => by
    have ih := keyIn_seen a r
    simp only [seenMap, List.map_cons, keyIn, scalEq]
    have e : (sb ⟨a.toArray⟩ = sb ⟨x.toArray⟩) = (x = a) := by
      simp only [sb, eq_iff_iff]
      constructor
      · intro h; exact h.symm
      · intro h; exact h.symm
    rw [posOf]
    by_cases hx : x = a
    · subst hx
      simp
    · rw [if_neg hx]
      simp only [e, hx, decide_false]
      rw [show keyIn (D.str a) (List.map (fun s => (D.str s, D.bool true)) r) = some ((posOf a r).map fun i => (i, D.bool true)) from ih]
      cases posOf a r <;> rfl
theorem posOf_mem {s : List UInt8} : ∀ {l : List (List UInt8)}, s ∈ l → ∃ k, posOf s l = some k
  | x :: r, h => by
    rw [posOf]
    by_cases hx : x = s
    · rw [if_pos hx]; exact ⟨0, rfl⟩
    · rw [if_neg hx]
      rcases List.mem_cons.1 h with rfl | h
      · exact absurd rfl hx
      · obtain ⟨k, hk⟩ := posOf_mem h
        exact ⟨k + 1, by rw [hk]; rfl⟩
def small (c : Cmd) : Prop := c.gives.length ≤ 8 ∧ c.wants.length ≤ 8
theorem stksOf_len {s : List UInt8} {l : List Stk} (h : stksOf s = some l) : l.length ≤ 8 := (stksOf_iff.1 h).1
theorem fieldOf_small {c c' : Cmd} {name text : List UInt8} (h : fieldOf c name text = some c') (hc : small c) : small c' := by
  by_cases hl : c.kind = 14 ∧ (name = txGives ∨ name = txWants)
  · rw [fieldOf_list hl.1 hl.2] at h
    cases hs : stksOf text with
    | none => rw [hs] at h; cases h
    | some l =>
      rw [hs] at h
      have := stksOf_len hs
      simp only [Option.some.injEq] at h
      subst h
      split
      · exact ⟨this, hc.2⟩
      · exact ⟨hc.1, this⟩
  · rw [fieldOf_num hl] at h
    cases hs : numOf text with
    | none => rw [hs] at h; cases h
    | some n =>
      rw [hs] at h
      simp only at h
      split at h
      · cases h
        unfold Cmd.setN
        cases posOf name nameList with
        | none => exact ⟨by simp [Cmd.zero], by simp [Cmd.zero]⟩
        | some p => exact hc
      · cases h
theorem parse_spec (H : Hp) (l : List UInt8) (hl : l.length < 4294967281) : Spec Tryd.prog 7 [D.str l] H (Ret (parseRes (parseOf l)) H) := by
  unfold parseOf
  have hlen := wordsOf_len l
  refine Spec.ofL [] Tryd.func7 rfl (by kernel_rfl) ?_
  simp (maxSteps := 4000000) -implicitDefEqProofs only [go_sem, vc_condC, Tryd.results7, Nat.reduceEqDiff, Nat.reduceAdd, Nat.reduceLeDiff, Nat.reduceLT, Nat.reduceMul, Nat.reduceSub, List.reduceReplicate, Int.reduceToNat, Int.reduceLT, Int.reduceLE, Int.reduceEq, Int.reduceAdd, Int.reduceSub, Int.reduceMul, Int.reduceNeg, Nat.zero_add]
  refine call_of (words_spec H l hl) (by simp (maxSteps := 4000000) -implicitDefEqProofs only [go_sem, vc_cond, Nat.reduceEqDiff, Nat.reduceAdd, Nat.reduceLeDiff, Nat.reduceLT, Nat.reduceMul, Nat.reduceSub, List.reduceReplicate, Int.reduceToNat, Int.reduceLT, Int.reduceLE, Int.reduceEq, Int.reduceAdd, Int.reduceSub, Int.reduceMul, Int.reduceNeg, Nat.zero_add]) ?_
  have hmem := @wordsOf_mem l
  generalize wordsOf l = ws at *
  simp (maxSteps := 4000000) -implicitDefEqProofs only [go_sem, vc_condC, Tryd.results7, Nat.reduceEqDiff, Nat.reduceAdd, Nat.reduceLeDiff, Nat.reduceLT, Nat.reduceMul, Nat.reduceSub, List.reduceReplicate, Int.reduceToNat, Int.reduceLT, Int.reduceLE, Int.reduceEq, Int.reduceAdd, Int.reduceSub, Int.reduceMul, Int.reduceNeg, Nat.zero_add]
  intro hm1 hm2
  refine cond_of (fun h => ?_) (fun h => ?_)
  · have : 1024 < l.length ∨ ws = [] := by
      simp at h
      rcases h with h | h
      · left; omega
      · exact .inr h
    rw [parseW_bad this]
    simp (maxSteps := 4000000) -implicitDefEqProofs only [go_sem, vc_condC, Tryd.results7, Nat.reduceEqDiff, Nat.reduceAdd, Nat.reduceLeDiff, Nat.reduceLT, Nat.reduceMul, Nat.reduceSub, List.reduceReplicate, Int.reduceToNat, Int.reduceLT, Int.reduceLE, Int.reduceEq, Int.reduceAdd, Int.reduceSub, Int.reduceMul, Int.reduceNeg, Nat.zero_add, parseRes, Cmd.zero, encS]
  · have hn : ¬ 1024 < l.length := by simp at h; omega
    cases ws with
    | nil => simp at h
    | cons w r =>
      have hr : r.length ≤ l.length := by simp at hlen; omega
      simp (maxSteps := 4000000) -implicitDefEqProofs only [go_sem, vc_condC, Tryd.results7, Nat.reduceEqDiff, Nat.reduceAdd, Nat.reduceLeDiff, Nat.reduceLT, Nat.reduceMul, Nat.reduceSub, List.reduceReplicate, Int.reduceToNat, Int.reduceLT, Int.reduceLE, Int.reduceEq, Int.reduceAdd, Int.reduceSub, Int.reduceMul, Int.reduceNeg, Nat.zero_add]
      refine ⟨by omega, call_of (kind_spec H w) (by simp (maxSteps := 4000000) -implicitDefEqProofs only [go_sem, vc_cond, Nat.reduceEqDiff, Nat.reduceAdd, Nat.reduceLeDiff, Nat.reduceLT, Nat.reduceMul, Nat.reduceSub, List.reduceReplicate, Int.reduceToNat, Int.reduceLT, Int.reduceLE, Int.reduceEq, Int.reduceAdd, Int.reduceSub, Int.reduceMul, Int.reduceNeg, Nat.zero_add]) ?_⟩
      simp (maxSteps := 4000000) -implicitDefEqProofs only [go_sem, vc_condC, Tryd.results7, Nat.reduceEqDiff, Nat.reduceAdd, Nat.reduceLeDiff, Nat.reduceLT, Nat.reduceMul, Nat.reduceSub, List.reduceReplicate, Int.reduceToNat, Int.reduceLT, Int.reduceLE, Int.reduceEq, Int.reduceAdd, Int.reduceSub, Int.reduceMul, Int.reduceNeg, Nat.zero_add]
      refine cond_of (fun h => ?_) (fun h => ?_)
      · rw [parseW_kind (of_decide_eq_true h)]
        simp (maxSteps := 4000000) -implicitDefEqProofs only [go_sem, vc_condC, Tryd.results7, Nat.reduceEqDiff, Nat.reduceAdd, Nat.reduceLeDiff, Nat.reduceLT, Nat.reduceMul, Nat.reduceSub, List.reduceReplicate, Int.reduceToNat, Int.reduceLT, Int.reduceLE, Int.reduceEq, Int.reduceAdd, Int.reduceSub, Int.reduceMul, Int.reduceNeg, Nat.zero_add, parseRes, Cmd.zero, encS]
      · rw [parseW_ok hn (of_decide_eq_false h)]
        generalize kindNo (posOf w kindList) = kd at *
        simp (maxSteps := 4000000) -implicitDefEqProofs only [go_sem, vc_condC, Tryd.results7, Nat.reduceEqDiff, Nat.reduceAdd, Nat.reduceLeDiff, Nat.reduceLT, Nat.reduceMul, Nat.reduceSub, List.reduceReplicate, Int.reduceToNat, Int.reduceLT, Int.reduceLE, Int.reduceEq, Int.reduceAdd, Int.reduceSub, Int.reduceMul, Int.reduceNeg, Nat.zero_add]
        intro b hb0
        refine ⟨by omega, fun _ => ?_⟩
        generalize hR : wordsIn (startOf kd) [] r = R
        have hmem2 : ∀ x ∈ r, x.length ≤ l.length := fun x hx => hmem (List.mem_cons_of_mem _ hx)
        refine loop_of (fun (x : Nat × Cmd × List (List UInt8)) => { env := [(2, .lp 2 0), (3, .d (D.int 0)), (34, .d (.sl 1 false (r.map D.str))), (35, .d (D.int r.length)), (36, .d (D.int x.1)), (5, .lp 5 0), (6, mapV b)], L := [(5, .box x.2.1.boxed), (2, .box Cmd.zero.boxed)], H := upd H b (.map (seenMap x.2.2)) })
          (fun x => x.1 ≤ r.length ∧ small x.2.1 ∧ wordsIn x.2.1 x.2.2 (r.drop x.1) = R) (fun x => r.length - x.1) (0, startOf kd, []) ⟨by simp, ⟨by simp [startOf], by simp [startOf]⟩, hR⟩
          (imp_le (by simp (maxSteps := 4000000) -implicitDefEqProofs only [go_sem, vc_cond, Nat.reduceEqDiff, Nat.reduceAdd, Nat.reduceLeDiff, Nat.reduceLT, Nat.reduceMul, Nat.reduceSub, List.reduceReplicate, Int.reduceToNat, Int.reduceLT, Int.reduceLE, Int.reduceEq, Int.reduceAdd, Int.reduceSub, Int.reduceMul, Int.reduceNeg, Nat.zero_add, Cmd.zero, startOf, encS, seenMap])) fun ⟨k, c, seen⟩ hx => ?_
        clear hlen hm2 hmem
        obtain ⟨hk, hsm, hin⟩ := hx
        simp only at hk hsm hin
        have hsm1 := hsm.1
        have hsm2 := hsm.2
        simp (maxSteps := 4000000) -implicitDefEqProofs only [go_sem, vc_condC, Tryd.results7, Nat.reduceEqDiff, Nat.reduceAdd, Nat.reduceLeDiff, Nat.reduceLT, Nat.reduceMul, Nat.reduceSub, List.reduceReplicate, Int.reduceToNat, Int.reduceLT, Int.reduceLE, Int.reduceEq, Int.reduceAdd, Int.reduceSub, Int.reduceMul, Int.reduceNeg, Nat.zero_add]
        refine cond_of (fun hlt => ?_) (fun hge => ?_)
        · have hlt : k < r.length := by simpa using hlt
          have hwl := hmem2 r[k] (List.getElem_mem hlt)
          have hcl := cutAt_fst_le 61 r[k]
          simp (maxSteps := 4000000) -implicitDefEqProofs only [go_sem, vc_condC, Tryd.results7, Nat.reduceEqDiff, Nat.reduceAdd, Nat.reduceLeDiff, Nat.reduceLT, Nat.reduceMul, Nat.reduceSub, List.reduceReplicate, Int.reduceToNat, Int.reduceLT, Int.reduceLE, Int.reduceEq, Int.reduceAdd, Int.reduceSub, Int.reduceMul, Int.reduceNeg, Nat.zero_add, hlt]
          refine call_of (scut_spec _ r[k] 61 (by omega)) (by simp (maxSteps := 4000000) -implicitDefEqProofs only [go_sem, vc_cond, Nat.reduceEqDiff, Nat.reduceAdd, Nat.reduceLeDiff, Nat.reduceLT, Nat.reduceMul, Nat.reduceSub, List.reduceReplicate, Int.reduceToNat, Int.reduceLT, Int.reduceLE, Int.reduceEq, Int.reduceAdd, Int.reduceSub, Int.reduceMul, Int.reduceNeg, Nat.zero_add]; try rfl) ?_
          rw [List.drop_eq_getElem_cons hlt] at hin
          have f1 := @stepOf_bad c seen r[k]
          have f2 := @stepOf_ok c seen r[k]
          have f3 := fun c' => @wordsIn_some c c' seen r[k] (r.drop (k + 1))
          have f4 := @wordsIn_none c seen r[k] (r.drop (k + 1))
          generalize stepOf c seen r[k] = sp at *
          generalize (cutAt 61 r[k]).1 = a at *
          generalize (cutAt 61 r[k]).2.1 = t at *
          generalize (cutAt 61 r[k]).2.2 = ok at *
          cases ok with
          | false =>
            rw [← hin, f4 (f1 (.inl rfl))]
            have hkey := keyIn_seen a seen
            cases hp : posOf a seen with
            | none =>
              rw [hp] at hkey
              simp (maxSteps := 4000000) -implicitDefEqProofs only [go_sem, vc_condC, Tryd.results7, Nat.reduceEqDiff, Nat.reduceAdd, Nat.reduceLeDiff, Nat.reduceLT, Nat.reduceMul, Nat.reduceSub, List.reduceReplicate, Int.reduceToNat, Int.reduceLT, Int.reduceLE, Int.reduceEq, Int.reduceAdd, Int.reduceSub, Int.reduceMul, Int.reduceNeg, Nat.zero_add, hkey]
              simp (maxSteps := 4000000) -implicitDefEqProofs only [go_sem, vc_condC, Tryd.results7, Nat.reduceEqDiff, Nat.reduceAdd, Nat.reduceLeDiff, Nat.reduceLT, Nat.reduceMul, Nat.reduceSub, List.reduceReplicate, Int.reduceToNat, Int.reduceLT, Int.reduceLE, Int.reduceEq, Int.reduceAdd, Int.reduceSub, Int.reduceMul, Int.reduceNeg, Nat.zero_add, parseRes, Cmd.zero, encS]
              exact subH_new hb0
            | some p =>
              rw [hp] at hkey
              simp (maxSteps := 4000000) -implicitDefEqProofs only [go_sem, vc_condC, Tryd.results7, Nat.reduceEqDiff, Nat.reduceAdd, Nat.reduceLeDiff, Nat.reduceLT, Nat.reduceMul, Nat.reduceSub, List.reduceReplicate, Int.reduceToNat, Int.reduceLT, Int.reduceLE, Int.reduceEq, Int.reduceAdd, Int.reduceSub, Int.reduceMul, Int.reduceNeg, Nat.zero_add, hkey]
              simp (maxSteps := 4000000) -implicitDefEqProofs only [go_sem, vc_condC, Tryd.results7, Nat.reduceEqDiff, Nat.reduceAdd, Nat.reduceLeDiff, Nat.reduceLT, Nat.reduceMul, Nat.reduceSub, List.reduceReplicate, Int.reduceToNat, Int.reduceLT, Int.reduceLE, Int.reduceEq, Int.reduceAdd, Int.reduceSub, Int.reduceMul, Int.reduceNeg, Nat.zero_add, parseRes, Cmd.zero, encS]
              exact subH_new hb0
          | true =>
            by_cases hs : a ∈ seen
            · rw [← hin, f4 (f1 (.inr hs))]
              obtain ⟨p, hp⟩ := posOf_mem hs
              have hkey := keyIn_seen a seen
              rw [hp] at hkey
              simp (maxSteps := 4000000) -implicitDefEqProofs only [go_sem, vc_condC, Tryd.results7, Nat.reduceEqDiff, Nat.reduceAdd, Nat.reduceLeDiff, Nat.reduceLT, Nat.reduceMul, Nat.reduceSub, List.reduceReplicate, Int.reduceToNat, Int.reduceLT, Int.reduceLE, Int.reduceEq, Int.reduceAdd, Int.reduceSub, Int.reduceMul, Int.reduceNeg, Nat.zero_add, hkey]
              simp (maxSteps := 4000000) -implicitDefEqProofs only [go_sem, vc_condC, Tryd.results7, Nat.reduceEqDiff, Nat.reduceAdd, Nat.reduceLeDiff, Nat.reduceLT, Nat.reduceMul, Nat.reduceSub, List.reduceReplicate, Int.reduceToNat, Int.reduceLT, Int.reduceLE, Int.reduceEq, Int.reduceAdd, Int.reduceSub, Int.reduceMul, Int.reduceNeg, Nat.zero_add, parseRes, Cmd.zero, encS]
              exact subH_new hb0
            · have hkey := keyIn_seen a seen
              rw [posOf_none hs] at hkey
              have f2 := f2 rfl hs
              simp (maxSteps := 4000000) -implicitDefEqProofs only [go_sem, vc_condC, Tryd.results7, Nat.reduceEqDiff, Nat.reduceAdd, Nat.reduceLeDiff, Nat.reduceLT, Nat.reduceMul, Nat.reduceSub, List.reduceReplicate, Int.reduceToNat, Int.reduceLT, Int.reduceLE, Int.reduceEq, Int.reduceAdd, Int.reduceSub, Int.reduceMul, Int.reduceNeg, Nat.zero_add, hkey]
              refine call_ofR (dfield_spec _ c a t (by omega) (by omega) (by omega)) (by simp (maxSteps := 4000000) -implicitDefEqProofs only [go_sem, vc_cond, Nat.reduceEqDiff, Nat.reduceAdd, Nat.reduceLeDiff, Nat.reduceLT, Nat.reduceMul, Nat.reduceSub, List.reduceReplicate, Int.reduceToNat, Int.reduceLT, Int.reduceLE, Int.reduceEq, Int.reduceAdd, Int.reduceSub, Int.reduceMul, Int.reduceNeg, Nat.zero_add, encS]) ?_
              have hset : seenMap seen ++ [(D.str a, D.bool true)] = seenMap (seen ++ [a]) := by simp [seenMap]
              rintro _ _ ⟨rfl, ⟨c', hc', rfl⟩ | ⟨hno, d, rfl⟩⟩
              · have f2 := f2.trans hc'
                have hsm' := fieldOf_small hc' hsm
                simp (maxSteps := 4000000) -implicitDefEqProofs only [go_sem, vc_condC, Tryd.results7, Nat.reduceEqDiff, Nat.reduceAdd, Nat.reduceLeDiff, Nat.reduceLT, Nat.reduceMul, Nat.reduceSub, List.reduceReplicate, Int.reduceToNat, Int.reduceLT, Int.reduceLE, Int.reduceEq, Int.reduceAdd, Int.reduceSub, Int.reduceMul, Int.reduceNeg, Nat.zero_add, encS, hset]
                refine ⟨(k + 1, c', seen ++ [a]), ⟨hlt, hsm', (f3 _ f2).symm.trans hin⟩, by simp only; omega, ?_⟩
                rw [wrap_i64 (by omega) (by omega)]
                simp (maxSteps := 4000000) -implicitDefEqProofs only [go_sem, vc_condC, Tryd.results7, Nat.reduceEqDiff, Nat.reduceAdd, Nat.reduceLeDiff, Nat.reduceLT, Nat.reduceMul, Nat.reduceSub, List.reduceReplicate, Int.reduceToNat, Int.reduceLT, Int.reduceLE, Int.reduceEq, Int.reduceAdd, Int.reduceSub, Int.reduceMul, Int.reduceNeg, Nat.zero_add, encS]
                simp
              · rw [← hin, f4 (f2.trans hno)]
                simp (maxSteps := 4000000) -implicitDefEqProofs only [go_sem, vc_condC, Tryd.results7, Nat.reduceEqDiff, Nat.reduceAdd, Nat.reduceLeDiff, Nat.reduceLT, Nat.reduceMul, Nat.reduceSub, List.reduceReplicate, Int.reduceToNat, Int.reduceLT, Int.reduceLE, Int.reduceEq, Int.reduceAdd, Int.reduceSub, Int.reduceMul, Int.reduceNeg, Nat.zero_add, parseRes, Cmd.zero, encS]
                exact subH_new hb0
        · have hk' : k = r.length := by simp at hge; omega
          subst hk'
          rw [List.drop_length, wordsIn] at hin
          rw [← hin]
          simp (maxSteps := 4000000) -implicitDefEqProofs only [go_sem, vc_condC, Tryd.results7, Nat.reduceEqDiff, Nat.reduceAdd, Nat.reduceLeDiff, Nat.reduceLT, Nat.reduceMul, Nat.reduceSub, List.reduceReplicate, Int.reduceToNat, Int.reduceLT, Int.reduceLE, Int.reduceEq, Int.reduceAdd, Int.reduceSub, Int.reduceMul, Int.reduceNeg, Nat.zero_add, parseRes, encS]
          exact subH_new hb0
end Go.Ab
