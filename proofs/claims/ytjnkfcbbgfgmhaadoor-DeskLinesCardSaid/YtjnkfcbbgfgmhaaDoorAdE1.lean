import Derived.Test.YtjnkfcbbgfgmhaaDoorAdE
set_option linter.unusedSimpArgs false
set_option linter.unusedVariables false
namespace Go.Ab
open Go Go.Ab Go.Proofs
set_option maxRecDepth 100000
def inI (n : Int) : Prop := -9223372036854775808 ≤ n ∧ n ≤ 9223372036854775807
def Stk.inR (s : Stk) : Prop := inI s.t ∧ inI s.q
def stkText (s : Stk) : List UInt8 := Lib.itoa s.t ++ [120] ++ Lib.itoa s.q
def listText (l : List Stk) : List UInt8 := Lib.join (l.map stkText) [44]
theorem itoa_le {n : Int} (h : inI n) : (Lib.itoa n).length ≤ 21 := Lib.itoa_length_le n h.1 h.2
theorem stkText_le {s : Stk} (h : s.inR) : (stkText s).length ≤ 43 := by
  have h1 := itoa_le h.1
  have h2 := itoa_le h.2
  simp only [stkText, List.length_append, List.length_singleton]; omega
theorem join_len : ∀ (l : List (List UInt8)) (m : Nat), (∀ x ∈ l, x.length ≤ m) → (Lib.join l [44]).length ≤ l.length * (m + 1)
  | [], m, _ => by simp [Lib.join, List.intercalate]
  | [x], m, h => by
    have := h x (List.mem_cons_self ..)
    simp [Lib.join, List.intercalate]; omega
  | x :: y :: r, m, h => by
    have h1 := h x (List.mem_cons_self ..)
    have ih := join_len (y :: r) m fun z hz => h z (List.mem_cons_of_mem _ hz)
    have e : Lib.join (x :: y :: r) [44] = x ++ ([44] ++ Lib.join (y :: r) [44]) := by simp [Lib.join, List.intercalate, List.intersperse]
    rw [e]
    simp only [List.length_append, List.length_cons, List.length_nil, Nat.add_mul] at ih ⊢
    omega
theorem listText_le {l : List Stk} (h : ∀ s ∈ l, s.inR) : (listText l).length ≤ l.length * 44 := by
  have := join_len (l.map stkText) 43 fun x hx => by
    obtain ⟨s, hs, rfl⟩ := List.mem_map.1 hx
    exact stkText_le (h s hs)
  simpa [listText] using this
theorem list_spec (H : Hp) (l : List Stk) (hl : l.length ≤ 4294967296) (hr : ∀ s ∈ l, s.inR) : Spec Tryd.prog 15 [encS l] H (Ret [D.str (listText l)] H) := by
  have hjl := listText_le hr
  refine Spec.ofL [] Tryd.func15 rfl (by kernel_rfl) ?_
  simp (maxSteps := 4000000) -implicitDefEqProofs only [go_sem, vc_condC, Tryd.results15, Nat.reduceEqDiff, Nat.reduceAdd, Nat.reduceLeDiff, Nat.reduceLT, Nat.reduceMul, Nat.reduceSub, List.reduceReplicate, Int.reduceToNat, Int.reduceLT, Int.reduceLE, Int.reduceEq, Int.reduceAdd, Int.reduceSub, Int.reduceMul, Int.reduceNeg, Nat.zero_add, encS]
  intro _
  refine loop_of (fun (k : Nat) => { env := [(6, .d (encS l)), (7, .d (D.int l.length)), (8, .d (D.int k)), (3, .row 22)], L := [(22, .row 1 true (((l.take k).map stkText).map D.str))], H := H })
    (fun k => k ≤ l.length) (fun k => l.length - k) 0 (by simp)
    ((imp_adopt _ 3 22 1 true rfl rfl).trans (imp_le (by simp (maxSteps := 4000000) -implicitDefEqProofs only [go_sem, vc_cond, Nat.reduceEqDiff, Nat.reduceAdd, Nat.reduceLeDiff, Nat.reduceLT, Nat.reduceMul, Nat.reduceSub, List.reduceReplicate, Int.reduceToNat, Int.reduceLT, Int.reduceLE, Int.reduceEq, Int.reduceAdd, Int.reduceSub, Int.reduceMul, Int.reduceNeg, Nat.zero_add, encS]))) fun k hk => ?_
  simp (maxSteps := 4000000) -implicitDefEqProofs only [go_sem, vc_condC, Tryd.results15, Nat.reduceEqDiff, Nat.reduceAdd, Nat.reduceLeDiff, Nat.reduceLT, Nat.reduceMul, Nat.reduceSub, List.reduceReplicate, Int.reduceToNat, Int.reduceLT, Int.reduceLE, Int.reduceEq, Int.reduceAdd, Int.reduceSub, Int.reduceMul, Int.reduceNeg, Nat.zero_add, encS]
  refine cond_of (fun hlt => ?_) (fun hge => ?_)
  · have hlt : k < l.length := by simpa using hlt
    have hs := hr l[k] (List.getElem_mem hlt)
    have h1 := itoa_le hs.1
    have h2 := itoa_le hs.2
    have hstk : stkText l[k] = Lib.itoa l[k].t ++ [120] ++ Lib.itoa l[k].q := rfl
    simp (maxSteps := 4000000) -implicitDefEqProofs only [go_sem, vc_condC, Tryd.results15, Nat.reduceEqDiff, Nat.reduceAdd, Nat.reduceLeDiff, Nat.reduceLT, Nat.reduceMul, Nat.reduceSub, List.reduceReplicate, Int.reduceToNat, Int.reduceLT, Int.reduceLE, Int.reduceEq, Int.reduceAdd, Int.reduceSub, Int.reduceMul, Int.reduceNeg, Nat.zero_add, hlt, Stk.enc]
    refine draw_of 10 [(15, [D.str (Lib.itoa l[k].t)]), (19, [D.str (Lib.itoa l[k].q)])] (by kernel_rfl) ?_
    simp (maxSteps := 4000000) -implicitDefEqProofs only [go_sem, vc_condC, Tryd.results15, Nat.reduceEqDiff, Nat.reduceAdd, Nat.reduceLeDiff, Nat.reduceLT, Nat.reduceMul, Nat.reduceSub, List.reduceReplicate, Int.reduceToNat, Int.reduceLT, Int.reduceLE, Int.reduceEq, Int.reduceAdd, Int.reduceSub, Int.reduceMul, Int.reduceNeg, Nat.zero_add]
    have hsn : (l.take (k + 1)).map stkText = (l.take k).map stkText ++ [stkText l[k]] := by
      rw [List.take_succ_eq_append_getElem hlt, List.map_append]; rfl
    refine ⟨itoa_spec H _ hs.1.1 hs.1.2, by omega, itoa_spec H _ hs.2.1 hs.2.2, by simp only [List.length_append, List.length_singleton]; omega, by rw [List.length_take]; omega, k + 1, hlt, by omega, ⟨?_, ?_⟩, ?_⟩
    · rw [wrap_i64 (by omega) (by omega)]; simp
    · rw [hsn, hstk]
    · rw [hsn, hstk]
  · have hk' : k = l.length := by simp at hge; omega
    subst hk'
    rw [List.take_length]
    simp (maxSteps := 4000000) -implicitDefEqProofs only [go_sem, vc_condC, Tryd.results15, Nat.reduceEqDiff, Nat.reduceAdd, Nat.reduceLeDiff, Nat.reduceLT, Nat.reduceMul, Nat.reduceSub, List.reduceReplicate, Int.reduceToNat, Int.reduceLT, Int.reduceLE, Int.reduceEq, Int.reduceAdd, Int.reduceSub, Int.reduceMul, Int.reduceNeg, Nat.zero_add]
    refine call_of (join_spec H (l.map stkText) false [44] (by simp; omega) (by have : (Lib.join (l.map stkText) [44]).length ≤ l.length * 44 := hjl; omega)) (by simp (maxSteps := 4000000) -implicitDefEqProofs only [go_sem, vc_cond, Nat.reduceEqDiff, Nat.reduceAdd, Nat.reduceLeDiff, Nat.reduceLT, Nat.reduceMul, Nat.reduceSub, List.reduceReplicate, Int.reduceToNat, Int.reduceLT, Int.reduceLE, Int.reduceEq, Int.reduceAdd, Int.reduceSub, Int.reduceMul, Int.reduceNeg, Nat.zero_add]; try rfl) ?_
    simp (maxSteps := 4000000) -implicitDefEqProofs only [go_sem, vc_condC, Tryd.results15, Nat.reduceEqDiff, Nat.reduceAdd, Nat.reduceLeDiff, Nat.reduceLT, Nat.reduceMul, Nat.reduceSub, List.reduceReplicate, Int.reduceToNat, Int.reduceLT, Int.reduceLE, Int.reduceEq, Int.reduceAdd, Int.reduceSub, Int.reduceMul, Int.reduceNeg, Nat.zero_add]
    rfl
def getN (c : Cmd) (name : List UInt8) : Int := match posOf name nameList with | some p => c.num p | none => 0
def lineStep (c : Cmd) (s name : List UInt8) : List UInt8 := if getN c name = 0 then s else s ++ ([32] ++ name ++ [61] ++ Lib.itoa (getN c name))
def lineNums (c : Cmd) (k : Nat) : List UInt8 := ((fieldsOf c.kind).take k).foldl (lineStep c) (nameOf c.kind)
def withList (s tag : List UInt8) (l : List Stk) : List UInt8 := if l = [] then s else s ++ (tag ++ listText l)
/-- A command's line. -/
def lineText (c : Cmd) : List UInt8 := withList (withList (lineNums c (fieldsOf c.kind).length) [32, 103, 105, 118, 101, 115, 61] c.gives) [32, 119, 97, 110, 116, 115, 61] c.wants
def Cmd.inR (c : Cmd) : Prop := (∀ i, i < 19 → inI (c.num i)) ∧ (∀ s ∈ c.gives, s.inR) ∧ ∀ s ∈ c.wants, s.inR
def LineQ (c : Cmd) (H : Hp) (rs : List D) (H' : Hp) : Prop := H' = H ∧ ((checkOk c ∧ rs = [D.str (lineText c), D.int 0]) ∨ (¬ checkOk c ∧ rs = [D.str [], D.int 1]))
theorem getN_inR {c : Cmd} (h : c.inR) (name : List UInt8) : inI (getN c name) := by
  unfold getN
  cases hp : posOf name nameList with
  | none => exact ⟨by simp, by simp⟩
  | some p => exact h.1 p (posOf_lt hp).1
theorem getRes_eq (c : Cmd) (name : List UInt8) : ∃ b, getRes c (posOf name nameList) = [D.int (getN c name), D.bool b] := by
  unfold getRes getN
  cases posOf name nameList with
  | none => exact ⟨false, rfl⟩
  | some p => exact ⟨true, rfl⟩
theorem fieldsOf_ok (k : Int) : (fieldsOf k).length ≤ 11 ∧ ∀ x ∈ fieldsOf k, x.length ≤ 6 := by
  unfold fieldsOf
  split
  · rename_i h
    have key : ∀ j, j < 25 → ((fieldTab.getD j []).map (nameList.getD · [])).length ≤ 11 ∧ ∀ x ∈ (fieldTab.getD j []).map (nameList.getD · []), x.length ≤ 6 := by decide
    exact key _ (by omega)
  · exact ⟨by simp, by simp⟩
theorem nameOf_len (k : Int) : (nameOf k).length ≤ 7 := by
  unfold nameOf
  split
  · rename_i h
    have key : ∀ j, j < 25 → (kindList.getD j []).length ≤ 7 := by decide
    exact key _ (by omega)
  · simp
theorem lineNums_succ {c : Cmd} {k : Nat} (h : k < (fieldsOf c.kind).length) : lineNums c (k + 1) = lineStep c (lineNums c k) (fieldsOf c.kind)[k] := by
  unfold lineNums
  rw [List.take_succ_eq_append_getElem h, List.foldl_append]; rfl
theorem lineNums_len {c : Cmd} (hc : c.inR) : ∀ k, k ≤ (fieldsOf c.kind).length → (lineNums c k).length ≤ 7 + 29 * k
  | 0, _ => by have := nameOf_len c.kind; simp [lineNums]; omega
  | k + 1, h => by
    have ih := lineNums_len hc k (by omega)
    rw [lineNums_succ (by omega)]
    have h1 := itoa_le (getN_inR hc (fieldsOf c.kind)[k])
    have h2 := (fieldsOf_ok c.kind).2 _ (List.getElem_mem (show k < (fieldsOf c.kind).length by omega))
    unfold lineStep
    split
    · omega
    · simp only [List.length_append, List.length_singleton]; omega
theorem withList_len (s tag : List UInt8) (l : List Stk) : (withList s tag l).length ≤ s.length + tag.length + (listText l).length := by
  unfold withList
  split
  · omega
  · simp only [List.length_append]; omega
theorem line_spec (H : Hp) (c : Cmd) (hg : c.gives.length ≤ 4294967296) (hw : c.wants.length ≤ 4294967296) (hc : c.inR) : Spec Tryd.prog 5 [c.enc] H (LineQ c H) := by
  have hfl := (fieldsOf_ok c.kind).1
  refine Spec.ofLRJ [] Tryd.func5 rfl (by kernel_rfl) ?_
  simp (maxSteps := 4000000) -implicitDefEqProofs only [go_sem, vc_condC, Tryd.results5, Nat.reduceEqDiff, Nat.reduceAdd, Nat.reduceLeDiff, Nat.reduceLT, Nat.reduceMul, Nat.reduceSub, List.reduceReplicate, Int.reduceToNat, Int.reduceLT, Int.reduceLE, Int.reduceEq, Int.reduceAdd, Int.reduceSub, Int.reduceMul, Int.reduceNeg, Nat.zero_add, encS]
  refine call_ofR (check_spec H c hg hw) (by simp (maxSteps := 4000000) -implicitDefEqProofs only [go_sem, vc_cond, Nat.reduceEqDiff, Nat.reduceAdd, Nat.reduceLeDiff, Nat.reduceLT, Nat.reduceMul, Nat.reduceSub, List.reduceReplicate, Int.reduceToNat, Int.reduceLT, Int.reduceLE, Int.reduceEq, Int.reduceAdd, Int.reduceSub, Int.reduceMul, Int.reduceNeg, Nat.zero_add, encS]) ?_
  rintro _ H ⟨rfl, e, ⟨hok, rfl⟩ | ⟨hno, rfl⟩, rfl⟩
  · simp (maxSteps := 4000000) -implicitDefEqProofs only [go_sem, vc_condC, Tryd.results5, Nat.reduceEqDiff, Nat.reduceAdd, Nat.reduceLeDiff, Nat.reduceLT, Nat.reduceMul, Nat.reduceSub, List.reduceReplicate, Int.reduceToNat, Int.reduceLT, Int.reduceLE, Int.reduceEq, Int.reduceAdd, Int.reduceSub, Int.reduceMul, Int.reduceNeg, Nat.zero_add]
    refine cond_of (fun h => by cases h) (fun _ => ?_)
    simp (maxSteps := 4000000) -implicitDefEqProofs only [go_sem, vc_condC, Tryd.results5, Nat.reduceEqDiff, Nat.reduceAdd, Nat.reduceLeDiff, Nat.reduceLT, Nat.reduceMul, Nat.reduceSub, List.reduceReplicate, Int.reduceToNat, Int.reduceLT, Int.reduceLE, Int.reduceEq, Int.reduceAdd, Int.reduceSub, Int.reduceMul, Int.reduceNeg, Nat.zero_add]
    refine call_of (cname_spec _ c.kind) (by simp (maxSteps := 4000000) -implicitDefEqProofs only [go_sem, vc_cond, Nat.reduceEqDiff, Nat.reduceAdd, Nat.reduceLeDiff, Nat.reduceLT, Nat.reduceMul, Nat.reduceSub, List.reduceReplicate, Int.reduceToNat, Int.reduceLT, Int.reduceLE, Int.reduceEq, Int.reduceAdd, Int.reduceSub, Int.reduceMul, Int.reduceNeg, Nat.zero_add]) ?_
    simp (maxSteps := 4000000) -implicitDefEqProofs only [go_sem, vc_condC, Tryd.results5, Nat.reduceEqDiff, Nat.reduceAdd, Nat.reduceLeDiff, Nat.reduceLT, Nat.reduceMul, Nat.reduceSub, List.reduceReplicate, Int.reduceToNat, Int.reduceLT, Int.reduceLE, Int.reduceEq, Int.reduceAdd, Int.reduceSub, Int.reduceMul, Int.reduceNeg, Nat.zero_add]
    refine call_of (fields_spec _ c.kind) (by simp (maxSteps := 4000000) -implicitDefEqProofs only [go_sem, vc_cond, Nat.reduceEqDiff, Nat.reduceAdd, Nat.reduceLeDiff, Nat.reduceLT, Nat.reduceMul, Nat.reduceSub, List.reduceReplicate, Int.reduceToNat, Int.reduceLT, Int.reduceLE, Int.reduceEq, Int.reduceAdd, Int.reduceSub, Int.reduceMul, Int.reduceNeg, Nat.zero_add]) ?_
    simp (maxSteps := 4000000) -implicitDefEqProofs only [go_sem, vc_condC, Tryd.results5, Nat.reduceEqDiff, Nat.reduceAdd, Nat.reduceLeDiff, Nat.reduceLT, Nat.reduceMul, Nat.reduceSub, List.reduceReplicate, Int.reduceToNat, Int.reduceLT, Int.reduceLE, Int.reduceEq, Int.reduceAdd, Int.reduceSub, Int.reduceMul, Int.reduceNeg, Nat.zero_add]
    intro _
    refine loop_of (fun (k : Nat) => { env := [(1, .lp 1 0), (20, .d (texts (fieldsOf c.kind))), (21, .d (D.int (fieldsOf c.kind).length)), (22, .d (D.int k)), (5, .d (D.str (lineNums c k)))], L := [(1, .box c.boxed)], H := H, J := true })
      (fun k => k ≤ (fieldsOf c.kind).length) (fun k => (fieldsOf c.kind).length - k) 0 (by simp)
      (imp_le (by simp (maxSteps := 4000000) -implicitDefEqProofs only [go_sem, vc_cond, Nat.reduceEqDiff, Nat.reduceAdd, Nat.reduceLeDiff, Nat.reduceLT, Nat.reduceMul, Nat.reduceSub, List.reduceReplicate, Int.reduceToNat, Int.reduceLT, Int.reduceLE, Int.reduceEq, Int.reduceAdd, Int.reduceSub, Int.reduceMul, Int.reduceNeg, Nat.zero_add, encS]; try rfl)) fun k hk => ?_
    simp (maxSteps := 4000000) -implicitDefEqProofs only [go_sem, vc_condC, Tryd.results5, Nat.reduceEqDiff, Nat.reduceAdd, Nat.reduceLeDiff, Nat.reduceLT, Nat.reduceMul, Nat.reduceSub, List.reduceReplicate, Int.reduceToNat, Int.reduceLT, Int.reduceLE, Int.reduceEq, Int.reduceAdd, Int.reduceSub, Int.reduceMul, Int.reduceNeg, Nat.zero_add]
    refine cond_of (fun hlt => ?_) (fun hge => ?_)
    · have hlt : k < (fieldsOf c.kind).length := by simpa using hlt
      have hlen := lineNums_len hc k hk
      have hnx := lineNums_succ hlt
      have hnm := (fieldsOf_ok c.kind).2 _ (List.getElem_mem hlt)
      unfold lineStep at hnx
      simp (maxSteps := 4000000) -implicitDefEqProofs only [go_sem, vc_condC, Tryd.results5, Nat.reduceEqDiff, Nat.reduceAdd, Nat.reduceLeDiff, Nat.reduceLT, Nat.reduceMul, Nat.reduceSub, List.reduceReplicate, Int.reduceToNat, Int.reduceLT, Int.reduceLE, Int.reduceEq, Int.reduceAdd, Int.reduceSub, Int.reduceMul, Int.reduceNeg, Nat.zero_add, hlt, encS]
      refine call_of (cget_spec _ c (fieldsOf c.kind)[k]) (by simp (maxSteps := 4000000) -implicitDefEqProofs only [go_sem, vc_cond, Nat.reduceEqDiff, Nat.reduceAdd, Nat.reduceLeDiff, Nat.reduceLT, Nat.reduceMul, Nat.reduceSub, List.reduceReplicate, Int.reduceToNat, Int.reduceLT, Int.reduceLE, Int.reduceEq, Int.reduceAdd, Int.reduceSub, Int.reduceMul, Int.reduceNeg, Nat.zero_add, encS]) ?_
      obtain ⟨b, hb⟩ := getRes_eq c (fieldsOf c.kind)[k]
      have hin := getN_inR hc (fieldsOf c.kind)[k]
      have hil := itoa_le hin
      rw [hb]
      generalize getN c (fieldsOf c.kind)[k] = n at *
      generalize (fieldsOf c.kind)[k] = name at *
      simp (maxSteps := 4000000) -implicitDefEqProofs only [go_sem, vc_condC, Tryd.results5, Nat.reduceEqDiff, Nat.reduceAdd, Nat.reduceLeDiff, Nat.reduceLT, Nat.reduceMul, Nat.reduceSub, List.reduceReplicate, Int.reduceToNat, Int.reduceLT, Int.reduceLE, Int.reduceEq, Int.reduceAdd, Int.reduceSub, Int.reduceMul, Int.reduceNeg, Nat.zero_add]
      refine cond_of (fun hz => ?_) (fun hz => ?_)
      · have hz : ¬ n = 0 := by simpa using hz
        rw [if_neg hz] at hnx
        simp (maxSteps := 4000000) -implicitDefEqProofs only [go_sem, vc_condC, Tryd.results5, Nat.reduceEqDiff, Nat.reduceAdd, Nat.reduceLeDiff, Nat.reduceLT, Nat.reduceMul, Nat.reduceSub, List.reduceReplicate, Int.reduceToNat, Int.reduceLT, Int.reduceLE, Int.reduceEq, Int.reduceAdd, Int.reduceSub, Int.reduceMul, Int.reduceNeg, Nat.zero_add]
        refine ⟨by omega, by first | omega | (simp; omega), call_of (itoa_spec _ n hin.1 hin.2) (by simp (maxSteps := 4000000) -implicitDefEqProofs only [go_sem, vc_cond, Nat.reduceEqDiff, Nat.reduceAdd, Nat.reduceLeDiff, Nat.reduceLT, Nat.reduceMul, Nat.reduceSub, List.reduceReplicate, Int.reduceToNat, Int.reduceLT, Int.reduceLE, Int.reduceEq, Int.reduceAdd, Int.reduceSub, Int.reduceMul, Int.reduceNeg, Nat.zero_add]) ?_⟩
        simp (maxSteps := 4000000) -implicitDefEqProofs only [go_sem, vc_condC, Tryd.results5, Nat.reduceEqDiff, Nat.reduceAdd, Nat.reduceLeDiff, Nat.reduceLT, Nat.reduceMul, Nat.reduceSub, List.reduceReplicate, Int.reduceToNat, Int.reduceLT, Int.reduceLE, Int.reduceEq, Int.reduceAdd, Int.reduceSub, Int.reduceMul, Int.reduceNeg, Nat.zero_add]
        refine ⟨by first | omega | (simp; omega), by first | omega | (simp; omega), k + 1, hlt, by omega, ?_⟩
        rw [wrap_i64 (by omega) (by omega), hnx]
        simp (maxSteps := 4000000) -implicitDefEqProofs only [go_sem, vc_condC, Tryd.results5, Nat.reduceEqDiff, Nat.reduceAdd, Nat.reduceLeDiff, Nat.reduceLT, Nat.reduceMul, Nat.reduceSub, List.reduceReplicate, Int.reduceToNat, Int.reduceLT, Int.reduceLE, Int.reduceEq, Int.reduceAdd, Int.reduceSub, Int.reduceMul, Int.reduceNeg, Nat.zero_add, encS]
        simp
      · have hz : n = 0 := by simpa using hz
        rw [if_pos hz] at hnx
        simp (maxSteps := 4000000) -implicitDefEqProofs only [go_sem, vc_condC, Tryd.results5, Nat.reduceEqDiff, Nat.reduceAdd, Nat.reduceLeDiff, Nat.reduceLT, Nat.reduceMul, Nat.reduceSub, List.reduceReplicate, Int.reduceToNat, Int.reduceLT, Int.reduceLE, Int.reduceEq, Int.reduceAdd, Int.reduceSub, Int.reduceMul, Int.reduceNeg, Nat.zero_add]
        refine ⟨k + 1, hlt, by omega, ?_⟩
        rw [wrap_i64 (by omega) (by omega), hnx]
        simp (maxSteps := 4000000) -implicitDefEqProofs only [go_sem, vc_condC, Tryd.results5, Nat.reduceEqDiff, Nat.reduceAdd, Nat.reduceLeDiff, Nat.reduceLT, Nat.reduceMul, Nat.reduceSub, List.reduceReplicate, Int.reduceToNat, Int.reduceLT, Int.reduceLE, Int.reduceEq, Int.reduceAdd, Int.reduceSub, Int.reduceMul, Int.reduceNeg, Nat.zero_add, encS]
        simp
    · have hk' : k = (fieldsOf c.kind).length := by simp at hge; omega
      subst hk'
      have hlen := lineNums_len hc _ hk
      have hg8 := listText_le hc.2.1
      have hw8 := listText_le hc.2.2
      have hl2 := hok.2.1
      have hlt : lineText c = withList (withList (lineNums c (fieldsOf c.kind).length) [32, 103, 105, 118, 101, 115, 61] c.gives) [32, 119, 97, 110, 116, 115, 61] c.wants := rfl
      generalize lineNums c (fieldsOf c.kind).length = s at *
      simp (maxSteps := 4000000) -implicitDefEqProofs only [go_sem, vc_condC, Tryd.results5, Nat.reduceEqDiff, Nat.reduceAdd, Nat.reduceLeDiff, Nat.reduceLT, Nat.reduceMul, Nat.reduceSub, List.reduceReplicate, Int.reduceToNat, Int.reduceLT, Int.reduceLE, Int.reduceEq, Int.reduceAdd, Int.reduceSub, Int.reduceMul, Int.reduceNeg, Nat.zero_add, encS]
      intro _
      refine cond_join { env := [(1, .lp 1 0), (5, .d (D.str (withList s [32, 103, 105, 118, 101, 115, 61] c.gives)))], L := [(1, .box c.boxed)], H := H, J := true } rfl (fun h => ?_) (fun h => ?_) ?_
      · have h : c.gives ≠ [] := fun e => by simp [e] at h
        simp (maxSteps := 4000000) -implicitDefEqProofs only [go_sem, vc_condC, Tryd.results5, Nat.reduceEqDiff, Nat.reduceAdd, Nat.reduceLeDiff, Nat.reduceLT, Nat.reduceMul, Nat.reduceSub, List.reduceReplicate, Int.reduceToNat, Int.reduceLT, Int.reduceLE, Int.reduceEq, Int.reduceAdd, Int.reduceSub, Int.reduceMul, Int.reduceNeg, Nat.zero_add]
        refine call_of (list_spec H c.gives (by omega) hc.2.1) (by simp (maxSteps := 4000000) -implicitDefEqProofs only [go_sem, vc_cond, Nat.reduceEqDiff, Nat.reduceAdd, Nat.reduceLeDiff, Nat.reduceLT, Nat.reduceMul, Nat.reduceSub, List.reduceReplicate, Int.reduceToNat, Int.reduceLT, Int.reduceLE, Int.reduceEq, Int.reduceAdd, Int.reduceSub, Int.reduceMul, Int.reduceNeg, Nat.zero_add, encS]) ?_
        simp (maxSteps := 4000000) -implicitDefEqProofs only [go_sem, vc_condC, Tryd.results5, Nat.reduceEqDiff, Nat.reduceAdd, Nat.reduceLeDiff, Nat.reduceLT, Nat.reduceMul, Nat.reduceSub, List.reduceReplicate, Int.reduceToNat, Int.reduceLT, Int.reduceLE, Int.reduceEq, Int.reduceAdd, Int.reduceSub, Int.reduceMul, Int.reduceNeg, Nat.zero_add, withList, h, encS]
        omega
      · have h : c.gives = [] := by simpa using h
        simp (maxSteps := 4000000) -implicitDefEqProofs only [go_sem, vc_condC, Tryd.results5, Nat.reduceEqDiff, Nat.reduceAdd, Nat.reduceLeDiff, Nat.reduceLT, Nat.reduceMul, Nat.reduceSub, List.reduceReplicate, Int.reduceToNat, Int.reduceLT, Int.reduceLE, Int.reduceEq, Int.reduceAdd, Int.reduceSub, Int.reduceMul, Int.reduceNeg, Nat.zero_add, withList, h, encS]
      · have hwl := withList_len s [32, 103, 105, 118, 101, 115, 61] c.gives
        simp only [List.length_cons, List.length_nil] at hwl
        generalize withList s [32, 103, 105, 118, 101, 115, 61] c.gives = s2 at *
        simp (maxSteps := 4000000) -implicitDefEqProofs only [go_sem, vc_condC, Tryd.results5, Nat.reduceEqDiff, Nat.reduceAdd, Nat.reduceLeDiff, Nat.reduceLT, Nat.reduceMul, Nat.reduceSub, List.reduceReplicate, Int.reduceToNat, Int.reduceLT, Int.reduceLE, Int.reduceEq, Int.reduceAdd, Int.reduceSub, Int.reduceMul, Int.reduceNeg, Nat.zero_add, encS]
        intro _
        refine cond_join { env := [(5, .d (D.str (withList s2 [32, 119, 97, 110, 116, 115, 61] c.wants)))], L := [], H := H, J := true } rfl (fun h => ?_) (fun h => ?_) ?_
        · have h : c.wants ≠ [] := fun e => by simp [e] at h
          simp (maxSteps := 4000000) -implicitDefEqProofs only [go_sem, vc_condC, Tryd.results5, Nat.reduceEqDiff, Nat.reduceAdd, Nat.reduceLeDiff, Nat.reduceLT, Nat.reduceMul, Nat.reduceSub, List.reduceReplicate, Int.reduceToNat, Int.reduceLT, Int.reduceLE, Int.reduceEq, Int.reduceAdd, Int.reduceSub, Int.reduceMul, Int.reduceNeg, Nat.zero_add]
          refine call_of (list_spec H c.wants (by omega) hc.2.2) (by simp (maxSteps := 4000000) -implicitDefEqProofs only [go_sem, vc_cond, Nat.reduceEqDiff, Nat.reduceAdd, Nat.reduceLeDiff, Nat.reduceLT, Nat.reduceMul, Nat.reduceSub, List.reduceReplicate, Int.reduceToNat, Int.reduceLT, Int.reduceLE, Int.reduceEq, Int.reduceAdd, Int.reduceSub, Int.reduceMul, Int.reduceNeg, Nat.zero_add, encS]) ?_
          simp (maxSteps := 4000000) -implicitDefEqProofs only [go_sem, vc_condC, Tryd.results5, Nat.reduceEqDiff, Nat.reduceAdd, Nat.reduceLeDiff, Nat.reduceLT, Nat.reduceMul, Nat.reduceSub, List.reduceReplicate, Int.reduceToNat, Int.reduceLT, Int.reduceLE, Int.reduceEq, Int.reduceAdd, Int.reduceSub, Int.reduceMul, Int.reduceNeg, Nat.zero_add, withList, h]
          omega
        · have h : c.wants = [] := by simpa using h
          simp (maxSteps := 4000000) -implicitDefEqProofs only [go_sem, vc_condC, Tryd.results5, Nat.reduceEqDiff, Nat.reduceAdd, Nat.reduceLeDiff, Nat.reduceLT, Nat.reduceMul, Nat.reduceSub, List.reduceReplicate, Int.reduceToNat, Int.reduceLT, Int.reduceLE, Int.reduceEq, Int.reduceAdd, Int.reduceSub, Int.reduceMul, Int.reduceNeg, Nat.zero_add, withList, h]
        · simp (maxSteps := 4000000) -implicitDefEqProofs only [go_sem, vc_condC, Tryd.results5, Nat.reduceEqDiff, Nat.reduceAdd, Nat.reduceLeDiff, Nat.reduceLT, Nat.reduceMul, Nat.reduceSub, List.reduceReplicate, Int.reduceToNat, Int.reduceLT, Int.reduceLE, Int.reduceEq, Int.reduceAdd, Int.reduceSub, Int.reduceMul, Int.reduceNeg, Nat.zero_add]
          refine ⟨_, _, ?_, subH.refl _, rfl, .inl ⟨hok, rfl⟩⟩
          rw [hlt]
          simp (maxSteps := 4000000) -implicitDefEqProofs only [go_sem, vc_condC, Tryd.results5, Nat.reduceEqDiff, Nat.reduceAdd, Nat.reduceLeDiff, Nat.reduceLT, Nat.reduceMul, Nat.reduceSub, List.reduceReplicate, Int.reduceToNat, Int.reduceLT, Int.reduceLE, Int.reduceEq, Int.reduceAdd, Int.reduceSub, Int.reduceMul, Int.reduceNeg, Nat.zero_add]
  · simp (maxSteps := 4000000) -implicitDefEqProofs only [go_sem, vc_condC, Tryd.results5, Nat.reduceEqDiff, Nat.reduceAdd, Nat.reduceLeDiff, Nat.reduceLT, Nat.reduceMul, Nat.reduceSub, List.reduceReplicate, Int.reduceToNat, Int.reduceLT, Int.reduceLE, Int.reduceEq, Int.reduceAdd, Int.reduceSub, Int.reduceMul, Int.reduceNeg, Nat.zero_add]
    refine cond_of (fun _ => ?_) (fun h => by cases h)
    simp (maxSteps := 4000000) -implicitDefEqProofs only [go_sem, vc_condC, Tryd.results5, Nat.reduceEqDiff, Nat.reduceAdd, Nat.reduceLeDiff, Nat.reduceLT, Nat.reduceMul, Nat.reduceSub, List.reduceReplicate, Int.reduceToNat, Int.reduceLT, Int.reduceLE, Int.reduceEq, Int.reduceAdd, Int.reduceSub, Int.reduceMul, Int.reduceNeg, Nat.zero_add]
    exact ⟨_, _, by simp (maxSteps := 4000000) -implicitDefEqProofs only [go_sem, vc_condC, Tryd.results5, Nat.reduceEqDiff, Nat.reduceAdd, Nat.reduceLeDiff, Nat.reduceLT, Nat.reduceMul, Nat.reduceSub, List.reduceReplicate, Int.reduceToNat, Int.reduceLT, Int.reduceLE, Int.reduceEq, Int.reduceAdd, Int.reduceSub, Int.reduceMul, Int.reduceNeg, Nat.zero_add], subH.refl _, rfl, .inr ⟨hno, rfl⟩⟩
end Go.Ab
