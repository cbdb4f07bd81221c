import Derived.Test.YtjnkfcbbgfgmhaaGreatDoorAbZ5
set_option linter.unusedSimpArgs false
set_option linter.unusedVariables false
namespace Go.Ab
open Go Go.Ab Go.Proofs
set_option maxRecDepth 100000

theorem isNum_uniq {s : List UInt8} {n m : Int} (hn : isNum s n) (hm : isNum s m) : n = m := by
  have h1 := (isNum_dg rfl hn).2.1
  have h2 := (isNum_dg rfl hm).2.1
  rw [h1, h2]
theorem isNum_nil {n : Int} : ¬ isNum [] n := fun h => by have := isNum_len h; simp at this
/-- A text that tells a stack. -/
def isStk (p : List UInt8) (x : Stk) : Prop := (cutAt 120 p).2.2 = true ∧ isNum (cutAt 120 p).1 x.t ∧ isNum (cutAt 120 p).2.1 x.q
theorem isStk_uniq {p : List UInt8} {x y : Stk} (hx : isStk p x) (hy : isStk p y) : x = y := by
  have h1 := isNum_uniq hx.2.1 hy.2.1
  have h2 := isNum_uniq hx.2.2 hy.2.2
  cases x; cases y; simp_all
def allStk : List (List UInt8) → List Stk → Prop
  | [], [] => True
  | p :: ps, x :: xs => isStk p x ∧ allStk ps xs
  | _, _ => False
theorem allStk_uniq : ∀ {ps : List (List UInt8)} {xs ys : List Stk}, allStk ps xs → allStk ps ys → xs = ys
  | [], [], [], _, _ => rfl
  | [], [], _ :: _, _, h => h.elim
  | [], _ :: _, _, h, _ => h.elim
  | _ :: _, [], _, h, _ => h.elim
  | _ :: _, _ :: _, [], _, h => h.elim
  | _ :: _, _ :: _, _ :: _, h, k => by rw [isStk_uniq h.1 k.1, allStk_uniq h.2 k.2]
theorem allStk_len : ∀ {ps : List (List UInt8)} {xs : List Stk}, allStk ps xs → xs.length = ps.length
  | [], [], _ => rfl
  | [], _ :: _, h => h.elim
  | _ :: _, [], h => h.elim
  | _ :: _, _ :: _, h => by simp [allStk_len h.2]
theorem allStk_snoc : ∀ {ps : List (List UInt8)} {xs : List Stk} {p : List UInt8} {x : Stk}, allStk ps xs → isStk p x → allStk (ps ++ [p]) (xs ++ [x])
  | [], [], _, _, _, h => ⟨h, trivial⟩
  | [], _ :: _, _, _, h, _ => h.elim
  | _ :: _, [], _, _, h, _ => h.elim
  | _ :: _, _ :: _, _, _, h, k => ⟨h.1, allStk_snoc h.2 k⟩
theorem allStk_get : ∀ {ps : List (List UInt8)} {xs : List Stk} {k : Nat} (_ : allStk ps xs) (hk : k < ps.length), ∃ x, isStk ps[k] x
  | [], _, _, _, hk => by simp at hk
  | _ :: _, [], _, h, _ => h.elim
  | _ :: _, x :: _, 0, h, _ => ⟨x, h.1⟩
  | _ :: _, _ :: _, k + 1, h, hk => by
    obtain ⟨x, hx⟩ := allStk_get (k := k) h.2 (by simpa using hk)
    exact ⟨x, by simpa using hx⟩
/-- Stacks of a text, or that there are none. -/
def isStks (s : List UInt8) (l : List Stk) : Prop := l.length ≤ 8 ∧ allStk (splitAcc 44 [] s) l
def StksQ (s : List UInt8) (H : Hp) (rs : List D) (H' : Hp) : Prop := H' = H ∧ ((∃ l, rs = [encS l, D.bool true] ∧ isStks s l) ∨ (rs = [.sl 0 true [], D.bool false] ∧ ∀ l, ¬ isStks s l))

theorem rstacks_spec (H : Hp) (s : List UInt8) (hs : s.length < 4294967281) : Spec Tryz.prog 10 [D.str s] H (StksQ s H) := by
  refine Spec.ofD [] Tryz.func10 rfl (by kernel_rfl) ?_
  simp (maxSteps := 4000000) -implicitDefEqProofs only [go_sem, vc_cond, Tryz.results10, Nat.reduceEqDiff, Nat.reduceAdd, Nat.reduceLeDiff, Nat.reduceLT, Nat.reduceMul, Nat.reduceSub, List.reduceReplicate, Int.reduceToNat, Int.reduceLT, Int.reduceLE, Int.reduceEq, Int.reduceAdd, Int.reduceSub, Int.reduceMul, Int.reduceNeg, Nat.zero_add]
  refine call_of (rsplit_spec H s 44 hs) (by simp (maxSteps := 4000000) -implicitDefEqProofs only [go_sem, vc_cond, Nat.reduceEqDiff, Nat.reduceAdd, Nat.reduceLeDiff, Nat.reduceLT, Nat.reduceMul, Nat.reduceSub, List.reduceReplicate, Int.reduceToNat, Int.reduceLT, Int.reduceLE, Int.reduceEq, Int.reduceAdd, Int.reduceSub, Int.reduceMul, Int.reduceNeg, Nat.zero_add]; try rfl) ?_
  simp (maxSteps := 4000000) -implicitDefEqProofs only [go_sem, vc_cond, Tryz.results10, Nat.reduceEqDiff, Nat.reduceAdd, Nat.reduceLeDiff, Nat.reduceLT, Nat.reduceMul, Nat.reduceSub, List.reduceReplicate, Int.reduceToNat, Int.reduceLT, Int.reduceLE, Int.reduceEq, Int.reduceAdd, Int.reduceSub, Int.reduceMul, Int.reduceNeg, Nat.zero_add]
  have hne := splitAcc_len 44 s []
  have hdef : ∀ l, isStks s l ↔ l.length ≤ 8 ∧ allStk (splitAcc 44 [] s) l := fun _ => Iff.rfl
  generalize splitAcc 44 [] s = ps at *
  refine loop_of (fun (x : Nat × List Stk) => { env := [(4, .d (texts ps)), (5, .row 56), (6, .d (D.int x.1))], L := [(56, .row 2 true (x.2.map Stk.enc))], H := H })
    (fun x => x.1 ≤ ps.length ∧ allStk (ps.take x.1) x.2) (fun x => ps.length - x.1) (0, []) ⟨by simp, trivial⟩
    ((imp_adopt _ 5 56 2 true rfl rfl).trans (imp_le (by simp (maxSteps := 4000000) -implicitDefEqProofs only [go_sem, vc_cond, Nat.reduceEqDiff, Nat.reduceAdd, Nat.reduceLeDiff, Nat.reduceLT, Nat.reduceMul, Nat.reduceSub, List.reduceReplicate, Int.reduceToNat, Int.reduceLT, Int.reduceLE, Int.reduceEq, Int.reduceAdd, Int.reduceSub, Int.reduceMul, Int.reduceNeg, Nat.zero_add]; try simp))) fun ⟨k, out⟩ hx => ?_
  obtain ⟨hk, ho⟩ := hx
  simp only at hk ho
  simp (maxSteps := 4000000) -implicitDefEqProofs only [go_sem, vc_cond, Tryz.results10, Nat.reduceEqDiff, Nat.reduceAdd, Nat.reduceLeDiff, Nat.reduceLT, Nat.reduceMul, Nat.reduceSub, List.reduceReplicate, Int.reduceToNat, Int.reduceLT, Int.reduceLE, Int.reduceEq, Int.reduceAdd, Int.reduceSub, Int.reduceMul, Int.reduceNeg, Nat.zero_add]
  intro hm
  refine ⟨fun h => ?_, fun h => ?_⟩
  · simp (maxSteps := 4000000) -implicitDefEqProofs only [go_sem, vc_cond, Tryz.results10, Nat.reduceEqDiff, Nat.reduceAdd, Nat.reduceLeDiff, Nat.reduceLT, Nat.reduceMul, Nat.reduceSub, List.reduceReplicate, Int.reduceToNat, Int.reduceLT, Int.reduceLE, Int.reduceEq, Int.reduceAdd, Int.reduceSub, Int.reduceMul, Int.reduceNeg, Nat.zero_add, h]
    refine call_of (rcut_spec H ps[k] 120) (by simp (maxSteps := 4000000) -implicitDefEqProofs only [go_sem, vc_cond, Nat.reduceEqDiff, Nat.reduceAdd, Nat.reduceLeDiff, Nat.reduceLT, Nat.reduceMul, Nat.reduceSub, List.reduceReplicate, Int.reduceToNat, Int.reduceLT, Int.reduceLE, Int.reduceEq, Int.reduceAdd, Int.reduceSub, Int.reduceMul, Int.reduceNeg, Nat.zero_add]; try rfl) ?_
    simp (maxSteps := 4000000) -implicitDefEqProofs only [go_sem, vc_cond, Tryz.results10, Nat.reduceEqDiff, Nat.reduceAdd, Nat.reduceLeDiff, Nat.reduceLT, Nat.reduceMul, Nat.reduceSub, List.reduceReplicate, Int.reduceToNat, Int.reduceLT, Int.reduceLE, Int.reduceEq, Int.reduceAdd, Int.reduceSub, Int.reduceMul, Int.reduceNeg, Nat.zero_add]
    refine call_ofR (rnumber_spec H (cutAt 120 ps[k]).1) (by simp (maxSteps := 4000000) -implicitDefEqProofs only [go_sem, vc_cond, Nat.reduceEqDiff, Nat.reduceAdd, Nat.reduceLeDiff, Nat.reduceLT, Nat.reduceMul, Nat.reduceSub, List.reduceReplicate, Int.reduceToNat, Int.reduceLT, Int.reduceLE, Int.reduceEq, Int.reduceAdd, Int.reduceSub, Int.reduceMul, Int.reduceNeg, Nat.zero_add]; try rfl) ?_
    rintro _ _ ⟨n, p, rfl, rfl, hp1, hp2⟩
    simp (maxSteps := 4000000) -implicitDefEqProofs only [go_sem, vc_cond, Tryz.results10, Nat.reduceEqDiff, Nat.reduceAdd, Nat.reduceLeDiff, Nat.reduceLT, Nat.reduceMul, Nat.reduceSub, List.reduceReplicate, Int.reduceToNat, Int.reduceLT, Int.reduceLE, Int.reduceEq, Int.reduceAdd, Int.reduceSub, Int.reduceMul, Int.reduceNeg, Nat.zero_add]
    refine call_ofR (rnumber_spec _ (cutAt 120 ps[k]).2.1) (by simp (maxSteps := 4000000) -implicitDefEqProofs only [go_sem, vc_cond, Nat.reduceEqDiff, Nat.reduceAdd, Nat.reduceLeDiff, Nat.reduceLT, Nat.reduceMul, Nat.reduceSub, List.reduceReplicate, Int.reduceToNat, Int.reduceLT, Int.reduceLE, Int.reduceEq, Int.reduceAdd, Int.reduceSub, Int.reduceMul, Int.reduceNeg, Nat.zero_add]; try rfl) ?_
    rintro _ _ ⟨m, q, rfl, rfl, hq1, hq2⟩
    simp (maxSteps := 4000000) -implicitDefEqProofs only [go_sem, vc_cond, Tryz.results10, Nat.reduceEqDiff, Nat.reduceAdd, Nat.reduceLeDiff, Nat.reduceLT, Nat.reduceMul, Nat.reduceSub, List.reduceReplicate, Int.reduceToNat, Int.reduceLT, Int.reduceLE, Int.reduceEq, Int.reduceAdd, Int.reduceSub, Int.reduceMul, Int.reduceNeg, Nat.zero_add]
    have hlen : out.length = k := by
      have := allStk_len ho
      rw [this, List.length_take]; omega
    refine ⟨fun hno => ?_, fun hyes => ?_⟩
    · refine ⟨rfl, .inr ⟨rfl, fun l hl => ?_⟩⟩
      obtain ⟨x, hx1, hx2, hx3⟩ := allStk_get ((hdef l).1 hl).2 h
      rcases hno with (hno | hno) | hno
      · rw [hno] at hx1; cases hx1
      · exact hp2 hno _ hx2
      · exact hq2 hno _ hx3
    · simp only [Bool.or_eq_false_iff, Bool.not_eq_eq_eq_not, Bool.not_false] at hyes
      obtain ⟨⟨h1, h2⟩, h3⟩ := hyes
      refine ⟨by omega, (k + 1, out ++ [⟨n, m⟩]), ⟨h, ?_⟩, by simp only; omega, ⟨?_, ?_⟩, ?_⟩
      · simp only
        rw [List.take_succ_eq_append_getElem h]
        exact allStk_snoc ho ⟨h1, hp1 h2, hq1 h3⟩
      · simp [Stk.enc]
      · rw [wrap_i64 (by omega) (by omega)]; simp
      · simp [Stk.enc]
  · have hk' : k = ps.length := by omega
    subst hk'
    rw [List.take_length] at ho
    intro _
    refine ⟨fun h8 => ⟨rfl, .inr ⟨rfl, fun l hl => ?_⟩⟩, fun h8 => ⟨rfl, .inl ⟨out, rfl, (hdef out).2 ⟨by omega, ho⟩⟩⟩⟩
    have := allStk_uniq ho ((hdef l).1 hl).2
    subst this
    have := ((hdef out).1 hl).1
    omega
end Go.Ab
