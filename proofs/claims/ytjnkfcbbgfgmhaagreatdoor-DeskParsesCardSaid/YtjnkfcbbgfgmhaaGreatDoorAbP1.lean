import Derived.Test.YtjnkfcbbgfgmhaaGreatDoorAbP
set_option linter.unusedSimpArgs false
set_option linter.unusedVariables false
namespace Go.Ab
open Go Go.Ab Go.Proofs
set_option maxRecDepth 100000
@[go_sem] def Cmd.boxed (c : Cmd) : List V := [.d (D.int c.kind), .d (D.int (c.num 0)), .d (D.int (c.num 1)), .d (D.int (c.num 2)), .d (D.int (c.num 3)), .d (D.int (c.num 4)), .d (D.int (c.num 5)), .d (D.int (c.num 6)), .d (D.int (c.num 7)), .d (D.int (c.num 8)), .d (D.int (c.num 9)),
  .d (D.int (c.num 10)), .d (D.int (c.num 11)), .d (D.int (c.num 12)), .d (D.int (c.num 13)), .d (D.int (c.num 14)), .d (D.int (c.num 15)), .d (D.int (c.num 16)), .d (D.int (c.num 17)), .d (D.int (c.num 18)), .d (encS c.gives), .d (encS c.wants)]
/-- What 'Parse' answers. -/
def parseRes (o : Option Cmd) : List D := match o with | some c => [c.enc, D.int 0] | none => [Cmd.zero.enc, D.int 2]
theorem wordsOf_len (l : List UInt8) : (wordsOf l).length ≤ l.length + 1 := by
  refine Nat.le_trans (List.length_filter_le _ _) (splitAcc_len 32 l [])
theorem splitAcc_mem (b : UInt8) : ∀ (l p : List UInt8), ∀ w ∈ splitAcc b p l, w.length ≤ p.length + l.length
  | [], p, w, h => by simp [splitAcc] at h; subst h; simp
  | x :: r, p, w, h => by
    rw [splitAcc] at h
    split at h
    · rcases List.mem_cons.1 h with rfl | h
      · simp
      · have := splitAcc_mem b r [] w h
        simp at this ⊢; omega
    · have := splitAcc_mem b r _ w h
      simp at this ⊢; omega
theorem wordsOf_mem {l w : List UInt8} (h : w ∈ wordsOf l) : w.length ≤ l.length := by
  have := splitAcc_mem 32 l [] w ((List.mem_filter.1 (show w ∈ (splitAcc 32 [] l).filter ne0 from h)).1)
  simpa using this
theorem cutAt_len (b : UInt8) : ∀ (l : List UInt8), (cutAt b l).1.length + (cutAt b l).2.1.length ≤ l.length
  | [] => by simp [cutAt]
  | x :: r => by
    rw [cutAt]
    have := cutAt_len b r
    split <;> simp <;> omega
theorem zero_none (H : Hp) : leDs [.agg [.v (.int .i64 0), .v (.int .i64 0), .v (.int .i64 0), .v (.int .i64 0), .v (.int .i64 0), .v (.int .i64 0), .v (.int .i64 0), .v (.int .i64 0), .v (.int .i64 0), .v (.int .i64 0), .v (.int .i64 0),
  .v (.int .i64 0), .v (.int .i64 0), .v (.int .i64 0), .v (.int .i64 0), .v (.int .i64 0), .v (.int .i64 0), .v (.int .i64 0), .v (.int .i64 0), .v (.int .i64 0), .sl 0 true [], .sl 0 true []], .v (.int .i64 2)] (parseRes none) := by
  simp (maxSteps := 4000000) -implicitDefEqProofs only [go_sem, vc_cond, Nat.reduceEqDiff, Nat.reduceAdd, Nat.reduceLeDiff, Nat.reduceLT, Nat.reduceMul, Nat.reduceSub, List.reduceReplicate, Int.reduceToNat, Int.reduceLT, Int.reduceLE, Int.reduceEq, Int.reduceAdd, Int.reduceSub, Int.reduceMul, Int.reduceNeg, Nat.zero_add, parseRes, Cmd.zero, encS]
theorem rparse_spec (H : Hp) (l : List UInt8) (hl : l.length < 4294967281) : Spec Tryz.prog 6 [D.str l] H (Ret (parseRes (parseOf l)) H) := by
  unfold parseOf
  have hlen := wordsOf_len l
  refine Spec.ofL [] Tryz.func6 rfl (by kernel_rfl) ?_
  simp (maxSteps := 4000000) -implicitDefEqProofs only [go_sem, vc_cond, Tryz.results6, Nat.reduceEqDiff, Nat.reduceAdd, Nat.reduceLeDiff, Nat.reduceLT, Nat.reduceMul, Nat.reduceSub, List.reduceReplicate, Int.reduceToNat, Int.reduceLT, Int.reduceLE, Int.reduceEq, Int.reduceAdd, Int.reduceSub, Int.reduceMul, Int.reduceNeg, Nat.zero_add]
  refine call_of (rwords_spec H l hl) (by simp (maxSteps := 4000000) -implicitDefEqProofs only [go_sem, vc_cond, Nat.reduceEqDiff, Nat.reduceAdd, Nat.reduceLeDiff, Nat.reduceLT, Nat.reduceMul, Nat.reduceSub, List.reduceReplicate, Int.reduceToNat, Int.reduceLT, Int.reduceLE, Int.reduceEq, Int.reduceAdd, Int.reduceSub, Int.reduceMul, Int.reduceNeg, Nat.zero_add]) ?_
  have hmem := @wordsOf_mem l
  generalize wordsOf l = ws at *
  simp (maxSteps := 4000000) -implicitDefEqProofs only [go_sem, vc_condC, Tryz.results6, Nat.reduceEqDiff, Nat.reduceAdd, Nat.reduceLeDiff, Nat.reduceLT, Nat.reduceMul, Nat.reduceSub, List.reduceReplicate, Int.reduceToNat, Int.reduceLT, Int.reduceLE, Int.reduceEq, Int.reduceAdd, Int.reduceSub, Int.reduceMul, Int.reduceNeg, Nat.zero_add]
  intro hm1 hm2
  refine cond_of (fun h => ?_) (fun h => ?_)
  · have : 1024 < l.length ∨ ws = [] := by
      simp at h
      rcases h with h | h
      · left; omega
      · exact .inr h
    rw [parseW_bad this]
    simp (maxSteps := 4000000) -implicitDefEqProofs only [go_sem, vc_condC, Tryz.results6, Nat.reduceEqDiff, Nat.reduceAdd, Nat.reduceLeDiff, Nat.reduceLT, Nat.reduceMul, Nat.reduceSub, List.reduceReplicate, Int.reduceToNat, Int.reduceLT, Int.reduceLE, Int.reduceEq, Int.reduceAdd, Int.reduceSub, Int.reduceMul, Int.reduceNeg, Nat.zero_add, parseRes, Cmd.zero, encS]
  · have hn : ¬ 1024 < l.length := by simp at h; omega
    cases ws with
    | nil => simp at h
    | cons w r =>
      simp (maxSteps := 4000000) -implicitDefEqProofs only [go_sem, vc_condC, Tryz.results6, Nat.reduceEqDiff, Nat.reduceAdd, Nat.reduceLeDiff, Nat.reduceLT, Nat.reduceMul, Nat.reduceSub, List.reduceReplicate, Int.reduceToNat, Int.reduceLT, Int.reduceLE, Int.reduceEq, Int.reduceAdd, Int.reduceSub, Int.reduceMul, Int.reduceNeg, Nat.zero_add]
      refine ⟨by omega, call_of (rkind_spec H w) (by simp (maxSteps := 4000000) -implicitDefEqProofs only [go_sem, vc_cond, Nat.reduceEqDiff, Nat.reduceAdd, Nat.reduceLeDiff, Nat.reduceLT, Nat.reduceMul, Nat.reduceSub, List.reduceReplicate, Int.reduceToNat, Int.reduceLT, Int.reduceLE, Int.reduceEq, Int.reduceAdd, Int.reduceSub, Int.reduceMul, Int.reduceNeg, Nat.zero_add]) ?_⟩
      simp (maxSteps := 4000000) -implicitDefEqProofs only [go_sem, vc_condC, Tryz.results6, Nat.reduceEqDiff, Nat.reduceAdd, Nat.reduceLeDiff, Nat.reduceLT, Nat.reduceMul, Nat.reduceSub, List.reduceReplicate, Int.reduceToNat, Int.reduceLT, Int.reduceLE, Int.reduceEq, Int.reduceAdd, Int.reduceSub, Int.reduceMul, Int.reduceNeg, Nat.zero_add]
      refine cond_of (fun h => ?_) (fun h => ?_)
      · rw [parseW_kind (of_decide_eq_true h)]
        simp (maxSteps := 4000000) -implicitDefEqProofs only [go_sem, vc_condC, Tryz.results6, Nat.reduceEqDiff, Nat.reduceAdd, Nat.reduceLeDiff, Nat.reduceLT, Nat.reduceMul, Nat.reduceSub, List.reduceReplicate, Int.reduceToNat, Int.reduceLT, Int.reduceLE, Int.reduceEq, Int.reduceAdd, Int.reduceSub, Int.reduceMul, Int.reduceNeg, Nat.zero_add, parseRes, Cmd.zero, encS]
      · rw [parseW_ok hn (of_decide_eq_false h)]
        generalize kindNo (posOf w kindList) = kd at *
        simp (maxSteps := 4000000) -implicitDefEqProofs only [go_sem, vc_condC, Tryz.results6, Nat.reduceEqDiff, Nat.reduceAdd, Nat.reduceLeDiff, Nat.reduceLT, Nat.reduceMul, Nat.reduceSub, List.reduceReplicate, Int.reduceToNat, Int.reduceLT, Int.reduceLE, Int.reduceEq, Int.reduceAdd, Int.reduceSub, Int.reduceMul, Int.reduceNeg, Nat.zero_add]
        generalize hR : wordsIn (startOf kd) [] r = R
        obtain ⟨ws, hws⟩ : ∃ ws, ws = w :: r := ⟨_, rfl⟩
        have e0 : D.str w :: r.map D.str = ws.map D.str := by rw [hws]; rfl
        have hwl : ws.length ≤ l.length + 1 := by rw [hws]; exact hlen
        have hmem2 : ∀ x ∈ ws, x.length ≤ l.length := by rw [hws]; exact fun x hx => hmem hx
        have hdr : ws.drop 1 = r := by rw [hws]; rfl
        have hpos : 1 ≤ ws.length := by rw [hws]; simp
        refine loop_of (fun (x : Nat × Cmd × List (List UInt8)) => { env := [(2, .lp 2 0), (3, .d (D.int 0)), (4, .d (texts ws)), (5, .lp 5 0), (6, .row 63), (7, .d (D.int x.1))], L := [(63, .row 1 true (x.2.2.map D.str)), (5, .box x.2.1.boxed), (2, .box Cmd.zero.boxed)], H := H })
          (fun x => 1 ≤ x.1 ∧ x.1 ≤ ws.length ∧ x.2.2.length ≤ x.1 ∧ wordsIn x.2.1 x.2.2 (ws.drop x.1) = R) (fun x => ws.length - x.1) (1, startOf kd, []) ⟨by simp, hpos, by simp, by simp only [hdr, hR]⟩
          ((imp_adopt _ 6 63 1 true rfl rfl).trans (imp_le (by simp (maxSteps := 4000000) -implicitDefEqProofs only [go_sem, vc_cond, Nat.reduceEqDiff, Nat.reduceAdd, Nat.reduceLeDiff, Nat.reduceLT, Nat.reduceMul, Nat.reduceSub, List.reduceReplicate, Int.reduceToNat, Int.reduceLT, Int.reduceLE, Int.reduceEq, Int.reduceAdd, Int.reduceSub, Int.reduceMul, Int.reduceNeg, Nat.zero_add, Cmd.boxed, Cmd.zero, startOf, encS, e0]))) fun ⟨k, c, seen⟩ hx => ?_
        clear e0 hws hdr hlen hm2 hmem
        obtain ⟨hk1, hk, hse, hin⟩ := hx
        simp only at hk1 hk hse hin
        simp (maxSteps := 4000000) -implicitDefEqProofs only [go_sem, vc_condC, Tryz.results6, Nat.reduceEqDiff, Nat.reduceAdd, Nat.reduceLeDiff, Nat.reduceLT, Nat.reduceMul, Nat.reduceSub, List.reduceReplicate, Int.reduceToNat, Int.reduceLT, Int.reduceLE, Int.reduceEq, Int.reduceAdd, Int.reduceSub, Int.reduceMul, Int.reduceNeg, Nat.zero_add]
        intro hm
        refine cond_of (fun hlt => ?_) (fun hge => ?_)
        · have hlt : k < ws.length := by simpa using hlt
          simp (maxSteps := 4000000) -implicitDefEqProofs only [go_sem, vc_condC, Tryz.results6, Nat.reduceEqDiff, Nat.reduceAdd, Nat.reduceLeDiff, Nat.reduceLT, Nat.reduceMul, Nat.reduceSub, List.reduceReplicate, Int.reduceToNat, Int.reduceLT, Int.reduceLE, Int.reduceEq, Int.reduceAdd, Int.reduceSub, Int.reduceMul, Int.reduceNeg, Nat.zero_add, hlt]
          refine call_of (rcut_spec H ws[k] 61) (by simp (maxSteps := 4000000) -implicitDefEqProofs only [go_sem, vc_cond, Nat.reduceEqDiff, Nat.reduceAdd, Nat.reduceLeDiff, Nat.reduceLT, Nat.reduceMul, Nat.reduceSub, List.reduceReplicate, Int.reduceToNat, Int.reduceLT, Int.reduceLE, Int.reduceEq, Int.reduceAdd, Int.reduceSub, Int.reduceMul, Int.reduceNeg, Nat.zero_add]; try rfl) ?_
          rw [List.drop_eq_getElem_cons hlt] at hin
          have f1 := @stepOf_bad c seen ws[k]
          have f2 := @stepOf_ok c seen ws[k]
          have f3 := fun c' => @wordsIn_some c c' seen ws[k] (ws.drop (k + 1))
          have f4 := @wordsIn_none c seen ws[k] (ws.drop (k + 1))
          have ht : (cutAt 61 ws[k]).2.1.length < 4294967281 := by
            have h1 := cutAt_len 61 ws[k]
            have h2 := hmem2 ws[k] (List.getElem_mem hlt)
            omega
          generalize stepOf c seen ws[k] = sp at *
          generalize (cutAt 61 ws[k]).1 = a at *
          generalize (cutAt 61 ws[k]).2.1 = t at *
          generalize (cutAt 61 ws[k]).2.2 = ok at *
          cases ok with
          | false =>
            rw [← hin, f4 (f1 (.inl rfl))]
            simp (maxSteps := 4000000) -implicitDefEqProofs only [go_sem, vc_condC, Tryz.results6, Nat.reduceEqDiff, Nat.reduceAdd, Nat.reduceLeDiff, Nat.reduceLT, Nat.reduceMul, Nat.reduceSub, List.reduceReplicate, Int.reduceToNat, Int.reduceLT, Int.reduceLE, Int.reduceEq, Int.reduceAdd, Int.reduceSub, Int.reduceMul, Int.reduceNeg, Nat.zero_add, parseRes, Cmd.zero, encS]
          | true =>
            simp (maxSteps := 4000000) -implicitDefEqProofs only [go_sem, vc_condC, Tryz.results6, Nat.reduceEqDiff, Nat.reduceAdd, Nat.reduceLeDiff, Nat.reduceLT, Nat.reduceMul, Nat.reduceSub, List.reduceReplicate, Int.reduceToNat, Int.reduceLT, Int.reduceLE, Int.reduceEq, Int.reduceAdd, Int.reduceSub, Int.reduceMul, Int.reduceNeg, Nat.zero_add]
            refine call_of (rin_spec H seen a) (by simp (maxSteps := 4000000) -implicitDefEqProofs only [go_sem, vc_cond, Nat.reduceEqDiff, Nat.reduceAdd, Nat.reduceLeDiff, Nat.reduceLT, Nat.reduceMul, Nat.reduceSub, List.reduceReplicate, Int.reduceToNat, Int.reduceLT, Int.reduceLE, Int.reduceEq, Int.reduceAdd, Int.reduceSub, Int.reduceMul, Int.reduceNeg, Nat.zero_add]) ?_
            simp (maxSteps := 4000000) -implicitDefEqProofs only [go_sem, vc_condC, Tryz.results6, Nat.reduceEqDiff, Nat.reduceAdd, Nat.reduceLeDiff, Nat.reduceLT, Nat.reduceMul, Nat.reduceSub, List.reduceReplicate, Int.reduceToNat, Int.reduceLT, Int.reduceLE, Int.reduceEq, Int.reduceAdd, Int.reduceSub, Int.reduceMul, Int.reduceNeg, Nat.zero_add]
            refine cond_of (fun hs => ?_) (fun hs => ?_)
            · rw [← hin, f4 (f1 (.inr (of_decide_eq_true hs)))]
              simp (maxSteps := 4000000) -implicitDefEqProofs only [go_sem, vc_condC, Tryz.results6, Nat.reduceEqDiff, Nat.reduceAdd, Nat.reduceLeDiff, Nat.reduceLT, Nat.reduceMul, Nat.reduceSub, List.reduceReplicate, Int.reduceToNat, Int.reduceLT, Int.reduceLE, Int.reduceEq, Int.reduceAdd, Int.reduceSub, Int.reduceMul, Int.reduceNeg, Nat.zero_add, parseRes, Cmd.zero, encS]
            · have f2 := f2 rfl (of_decide_eq_false hs)
              simp (maxSteps := 4000000) -implicitDefEqProofs only [go_sem, vc_condC, Tryz.results6, Nat.reduceEqDiff, Nat.reduceAdd, Nat.reduceLeDiff, Nat.reduceLT, Nat.reduceMul, Nat.reduceSub, List.reduceReplicate, Int.reduceToNat, Int.reduceLT, Int.reduceLE, Int.reduceEq, Int.reduceAdd, Int.reduceSub, Int.reduceMul, Int.reduceNeg, Nat.zero_add]
              refine ⟨by omega, fun p q => ⟨p, q⟩, cond_of (fun hb => ?_) (fun hb => ?_)⟩
              · simp only [Bool.and_eq_true, Bool.or_eq_true, decide_eq_true_eq] at hb
                obtain ⟨h14, hgw⟩ := hb
                rw [fieldOf_list h14 hgw] at f2
                simp (maxSteps := 4000000) -implicitDefEqProofs only [go_sem, vc_condC, Tryz.results6, Nat.reduceEqDiff, Nat.reduceAdd, Nat.reduceLeDiff, Nat.reduceLT, Nat.reduceMul, Nat.reduceSub, List.reduceReplicate, Int.reduceToNat, Int.reduceLT, Int.reduceLE, Int.reduceEq, Int.reduceAdd, Int.reduceSub, Int.reduceMul, Int.reduceNeg, Nat.zero_add]
                refine call_ofR (rstacks_spec H t ht) (by simp (maxSteps := 4000000) -implicitDefEqProofs only [go_sem, vc_cond, Nat.reduceEqDiff, Nat.reduceAdd, Nat.reduceLeDiff, Nat.reduceLT, Nat.reduceMul, Nat.reduceSub, List.reduceReplicate, Int.reduceToNat, Int.reduceLT, Int.reduceLE, Int.reduceEq, Int.reduceAdd, Int.reduceSub, Int.reduceMul, Int.reduceNeg, Nat.zero_add]) ?_
                rintro _ _ ⟨rfl, ⟨sl, rfl, hsl⟩ | ⟨rfl, hsl⟩⟩
                · rw [stksOf_iff.2 hsl] at f2
                  simp (maxSteps := 4000000) -implicitDefEqProofs only [go_sem, vc_condC, Tryz.results6, Nat.reduceEqDiff, Nat.reduceAdd, Nat.reduceLeDiff, Nat.reduceLT, Nat.reduceMul, Nat.reduceSub, List.reduceReplicate, Int.reduceToNat, Int.reduceLT, Int.reduceLE, Int.reduceEq, Int.reduceAdd, Int.reduceSub, Int.reduceMul, Int.reduceNeg, Nat.zero_add]
                  refine cond_of (fun hg => ?_) (fun hg => ?_)
                  · have f2 : sp = some { c with gives := sl } := f2.trans (congrArg some (if_pos (of_decide_eq_true hg)))
                    simp (maxSteps := 4000000) -implicitDefEqProofs only [go_sem, vc_condC, Tryz.results6, Nat.reduceEqDiff, Nat.reduceAdd, Nat.reduceLeDiff, Nat.reduceLT, Nat.reduceMul, Nat.reduceSub, List.reduceReplicate, Int.reduceToNat, Int.reduceLT, Int.reduceLE, Int.reduceEq, Int.reduceAdd, Int.reduceSub, Int.reduceMul, Int.reduceNeg, Nat.zero_add, encS]
                    refine ⟨(k + 1, { c with gives := sl }, seen ++ [a]), ⟨by omega, hlt, by simp only [List.length_append, List.length_singleton]; omega, (f3 _ f2).symm.trans hin⟩, by simp only; omega, ?_⟩
                    rw [wrap_i64 (by omega) (by omega)]
                    simp (maxSteps := 4000000) -implicitDefEqProofs only [go_sem, vc_condC, Tryz.results6, Nat.reduceEqDiff, Nat.reduceAdd, Nat.reduceLeDiff, Nat.reduceLT, Nat.reduceMul, Nat.reduceSub, List.reduceReplicate, Int.reduceToNat, Int.reduceLT, Int.reduceLE, Int.reduceEq, Int.reduceAdd, Int.reduceSub, Int.reduceMul, Int.reduceNeg, Nat.zero_add, encS, List.map_append]
                    simp
                  · have f2 : sp = some { c with wants := sl } := f2.trans (congrArg some (if_neg (of_decide_eq_false hg)))
                    simp (maxSteps := 4000000) -implicitDefEqProofs only [go_sem, vc_condC, Tryz.results6, Nat.reduceEqDiff, Nat.reduceAdd, Nat.reduceLeDiff, Nat.reduceLT, Nat.reduceMul, Nat.reduceSub, List.reduceReplicate, Int.reduceToNat, Int.reduceLT, Int.reduceLE, Int.reduceEq, Int.reduceAdd, Int.reduceSub, Int.reduceMul, Int.reduceNeg, Nat.zero_add, encS]
                    refine ⟨(k + 1, { c with wants := sl }, seen ++ [a]), ⟨by omega, hlt, by simp only [List.length_append, List.length_singleton]; omega, (f3 _ f2).symm.trans hin⟩, by simp only; omega, ?_⟩
                    rw [wrap_i64 (by omega) (by omega)]
                    simp (maxSteps := 4000000) -implicitDefEqProofs only [go_sem, vc_condC, Tryz.results6, Nat.reduceEqDiff, Nat.reduceAdd, Nat.reduceLeDiff, Nat.reduceLT, Nat.reduceMul, Nat.reduceSub, List.reduceReplicate, Int.reduceToNat, Int.reduceLT, Int.reduceLE, Int.reduceEq, Int.reduceAdd, Int.reduceSub, Int.reduceMul, Int.reduceNeg, Nat.zero_add, encS, List.map_append]
                    simp
                · rw [stksOf_none hsl] at f2
                  rw [← hin, f4 f2]
                  simp (maxSteps := 4000000) -implicitDefEqProofs only [go_sem, vc_condC, Tryz.results6, Nat.reduceEqDiff, Nat.reduceAdd, Nat.reduceLeDiff, Nat.reduceLT, Nat.reduceMul, Nat.reduceSub, List.reduceReplicate, Int.reduceToNat, Int.reduceLT, Int.reduceLE, Int.reduceEq, Int.reduceAdd, Int.reduceSub, Int.reduceMul, Int.reduceNeg, Nat.zero_add, parseRes, Cmd.zero, encS]
              · have hb2 : ¬ (c.kind = 14 ∧ (a = txGives ∨ a = txWants)) := by
                  simp only [Bool.and_eq_false_iff, Bool.or_eq_false_iff, decide_eq_false_iff_not] at hb
                  rintro ⟨h1, h2 | h2⟩
                  · rcases hb with hb | hb
                    · exact hb h1
                    · exact hb.1 h2
                  · rcases hb with hb | hb
                    · exact hb h1
                    · exact hb.2 h2
                rw [fieldOf_num hb2] at f2
                clear hb hb2
                simp (maxSteps := 4000000) -implicitDefEqProofs only [go_sem, vc_condC, Tryz.results6, Nat.reduceEqDiff, Nat.reduceAdd, Nat.reduceLeDiff, Nat.reduceLT, Nat.reduceMul, Nat.reduceSub, List.reduceReplicate, Int.reduceToNat, Int.reduceLT, Int.reduceLE, Int.reduceEq, Int.reduceAdd, Int.reduceSub, Int.reduceMul, Int.reduceNeg, Nat.zero_add]
                refine call_ofR (rnumber_spec H t) (by simp (maxSteps := 4000000) -implicitDefEqProofs only [go_sem, vc_cond, Nat.reduceEqDiff, Nat.reduceAdd, Nat.reduceLeDiff, Nat.reduceLT, Nat.reduceMul, Nat.reduceSub, List.reduceReplicate, Int.reduceToNat, Int.reduceLT, Int.reduceLE, Int.reduceEq, Int.reduceAdd, Int.reduceSub, Int.reduceMul, Int.reduceNeg, Nat.zero_add]) ?_
                rintro _ _ ⟨n, q, rfl, rfl, hq1, hq2⟩
                rw [numOf_of hq1 hq2] at f2
                clear hq1 hq2
                simp (maxSteps := 4000000) -implicitDefEqProofs only [go_sem, vc_condC, Tryz.results6, Nat.reduceEqDiff, Nat.reduceAdd, Nat.reduceLeDiff, Nat.reduceLT, Nat.reduceMul, Nat.reduceSub, List.reduceReplicate, Int.reduceToNat, Int.reduceLT, Int.reduceLE, Int.reduceEq, Int.reduceAdd, Int.reduceSub, Int.reduceMul, Int.reduceNeg, Nat.zero_add]
                cases q with
                | false =>
                  rw [← hin, f4 f2]
                  simp (maxSteps := 4000000) -implicitDefEqProofs only [go_sem, vc_condC, Tryz.results6, Nat.reduceEqDiff, Nat.reduceAdd, Nat.reduceLeDiff, Nat.reduceLT, Nat.reduceMul, Nat.reduceSub, List.reduceReplicate, Int.reduceToNat, Int.reduceLT, Int.reduceLE, Int.reduceEq, Int.reduceAdd, Int.reduceSub, Int.reduceMul, Int.reduceNeg, Nat.zero_add, parseRes, Cmd.zero, encS]
                | true =>
                  simp only [if_true] at f2
                  simp (maxSteps := 4000000) -implicitDefEqProofs only [go_sem, vc_condC, Tryz.results6, Nat.reduceEqDiff, Nat.reduceAdd, Nat.reduceLeDiff, Nat.reduceLT, Nat.reduceMul, Nat.reduceSub, List.reduceReplicate, Int.reduceToNat, Int.reduceLT, Int.reduceLE, Int.reduceEq, Int.reduceAdd, Int.reduceSub, Int.reduceMul, Int.reduceNeg, Nat.zero_add]
                  refine call_of (rfields_spec _ c.kind) (by simp (maxSteps := 4000000) -implicitDefEqProofs only [go_sem, vc_cond, Nat.reduceEqDiff, Nat.reduceAdd, Nat.reduceLeDiff, Nat.reduceLT, Nat.reduceMul, Nat.reduceSub, List.reduceReplicate, Int.reduceToNat, Int.reduceLT, Int.reduceLE, Int.reduceEq, Int.reduceAdd, Int.reduceSub, Int.reduceMul, Int.reduceNeg, Nat.zero_add]) ?_
                  simp (maxSteps := 4000000) -implicitDefEqProofs only [go_sem, vc_condC, Tryz.results6, Nat.reduceEqDiff, Nat.reduceAdd, Nat.reduceLeDiff, Nat.reduceLT, Nat.reduceMul, Nat.reduceSub, List.reduceReplicate, Int.reduceToNat, Int.reduceLT, Int.reduceLE, Int.reduceEq, Int.reduceAdd, Int.reduceSub, Int.reduceMul, Int.reduceNeg, Nat.zero_add]
                  refine call_of (rin_spec _ (fieldsOf c.kind) a) (by simp (maxSteps := 4000000) -implicitDefEqProofs only [go_sem, vc_cond, Nat.reduceEqDiff, Nat.reduceAdd, Nat.reduceLeDiff, Nat.reduceLT, Nat.reduceMul, Nat.reduceSub, List.reduceReplicate, Int.reduceToNat, Int.reduceLT, Int.reduceLE, Int.reduceEq, Int.reduceAdd, Int.reduceSub, Int.reduceMul, Int.reduceNeg, Nat.zero_add]) ?_
                  simp (maxSteps := 4000000) -implicitDefEqProofs only [go_sem, vc_condC, Tryz.results6, Nat.reduceEqDiff, Nat.reduceAdd, Nat.reduceLeDiff, Nat.reduceLT, Nat.reduceMul, Nat.reduceSub, List.reduceReplicate, Int.reduceToNat, Int.reduceLT, Int.reduceLE, Int.reduceEq, Int.reduceAdd, Int.reduceSub, Int.reduceMul, Int.reduceNeg, Nat.zero_add]
                  refine cond_of (fun hg => ?_) (fun hg => ?_)
                  · rw [if_neg (by simpa using hg)] at f2
                    rw [← hin, f4 f2]
                    simp (maxSteps := 4000000) -implicitDefEqProofs only [go_sem, vc_condC, Tryz.results6, Nat.reduceEqDiff, Nat.reduceAdd, Nat.reduceLeDiff, Nat.reduceLT, Nat.reduceMul, Nat.reduceSub, List.reduceReplicate, Int.reduceToNat, Int.reduceLT, Int.reduceLE, Int.reduceEq, Int.reduceAdd, Int.reduceSub, Int.reduceMul, Int.reduceNeg, Nat.zero_add, parseRes, Cmd.zero, encS]
                  · rw [if_pos (by simpa using hg)] at f2
                    simp (maxSteps := 4000000) -implicitDefEqProofs only [go_sem, vc_condC, Tryz.results6, Nat.reduceEqDiff, Nat.reduceAdd, Nat.reduceLeDiff, Nat.reduceLT, Nat.reduceMul, Nat.reduceSub, List.reduceReplicate, Int.reduceToNat, Int.reduceLT, Int.reduceLE, Int.reduceEq, Int.reduceAdd, Int.reduceSub, Int.reduceMul, Int.reduceNeg, Nat.zero_add, encS]
                    refine call_of (rset_spec _ c a n) (by simp (maxSteps := 4000000) -implicitDefEqProofs only [go_sem, vc_cond, Nat.reduceEqDiff, Nat.reduceAdd, Nat.reduceLeDiff, Nat.reduceLT, Nat.reduceMul, Nat.reduceSub, List.reduceReplicate, Int.reduceToNat, Int.reduceLT, Int.reduceLE, Int.reduceEq, Int.reduceAdd, Int.reduceSub, Int.reduceMul, Int.reduceNeg, Nat.zero_add, encS]) ?_
                    generalize (c.setN a n).1 = c' at *
                    simp (maxSteps := 4000000) -implicitDefEqProofs only [go_sem, vc_condC, Tryz.results6, Nat.reduceEqDiff, Nat.reduceAdd, Nat.reduceLeDiff, Nat.reduceLT, Nat.reduceMul, Nat.reduceSub, List.reduceReplicate, Int.reduceToNat, Int.reduceLT, Int.reduceLE, Int.reduceEq, Int.reduceAdd, Int.reduceSub, Int.reduceMul, Int.reduceNeg, Nat.zero_add, encS]
                    refine ⟨(k + 1, c', seen ++ [a]), ⟨by omega, hlt, by simp only [List.length_append, List.length_singleton]; omega, (f3 _ f2).symm.trans hin⟩, by simp only; omega, ?_⟩
                    rw [wrap_i64 (by omega) (by omega)]
                    simp (maxSteps := 4000000) -implicitDefEqProofs only [go_sem, vc_condC, Tryz.results6, Nat.reduceEqDiff, Nat.reduceAdd, Nat.reduceLeDiff, Nat.reduceLT, Nat.reduceMul, Nat.reduceSub, List.reduceReplicate, Int.reduceToNat, Int.reduceLT, Int.reduceLE, Int.reduceEq, Int.reduceAdd, Int.reduceSub, Int.reduceMul, Int.reduceNeg, Nat.zero_add, encS, List.map_append]
                    simp
        · have hk' : k = ws.length := by simp at hge; omega
          subst hk'
          rw [List.drop_length, wordsIn] at hin
          rw [← hin]
          simp (maxSteps := 4000000) -implicitDefEqProofs only [go_sem, vc_condC, Tryz.results6, Nat.reduceEqDiff, Nat.reduceAdd, Nat.reduceLeDiff, Nat.reduceLT, Nat.reduceMul, Nat.reduceSub, List.reduceReplicate, Int.reduceToNat, Int.reduceLT, Int.reduceLE, Int.reduceEq, Int.reduceAdd, Int.reduceSub, Int.reduceMul, Int.reduceNeg, Nat.zero_add, parseRes, encS]
end Go.Ab
