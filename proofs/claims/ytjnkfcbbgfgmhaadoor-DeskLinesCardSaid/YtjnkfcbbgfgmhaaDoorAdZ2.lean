import Derived.Test.YtjnkfcbbgfgmhaaDoorAdZ1
set_option linter.unusedSimpArgs false
set_option linter.unusedVariables false
namespace Go.Ab
open Go Go.Ab Go.Proofs
set_option maxRecDepth 100000

/-- A command. num: its numbers, from who to bay. -/
structure Cmd where
  kind : Int
  num : Nat → Int
  gives : List Stk
  wants : List Stk
abbrev Cmd.enc (c : Cmd) : D := .agg [D.int c.kind, D.int (c.num 0), D.int (c.num 1), D.int (c.num 2), D.int (c.num 3), D.int (c.num 4), D.int (c.num 5), D.int (c.num 6), D.int (c.num 7), D.int (c.num 8), D.int (c.num 9),
  D.int (c.num 10), D.int (c.num 11), D.int (c.num 12), D.int (c.num 13), D.int (c.num 14), D.int (c.num 15), D.int (c.num 16), D.int (c.num 17), D.int (c.num 18), encS c.gives, encS c.wants]
abbrev ints (l : List Int) : D := .sl 1 true (l.map D.int)
def Cmd.nums (c : Cmd) : List Int := (List.range 19).map c.num

theorem all28_spec (H) (c : Cmd) : Spec Tryd.prog 26 [c.enc] H (Ret [ints c.nums] H) := by
  refine Spec.of [] Tryd.func26 rfl (by kernel_rfl) ?_
  simp (maxSteps := 4000000) -implicitDefEqProofs only [go_sem, vc_cond, Tryd.results26, Nat.reduceEqDiff, Nat.reduceAdd, Nat.reduceLeDiff, Nat.reduceLT, Nat.reduceMul, Nat.reduceSub, List.reduceReplicate, Int.reduceToNat, Int.reduceLT, Int.reduceLE, Int.reduceEq, Int.reduceAdd, Int.reduceSub, Int.reduceMul, Int.reduceNeg, Nat.zero_add]
  exact .inl rfl

def nameList : List (List UInt8) := [[119, 104, 111], [97, 115], [100, 105, 118], [105, 100], [116, 111], [105, 110, 116, 111], [112, 108, 97, 99, 101], [100, 101, 115, 116], [116, 121, 112, 101], [110],
  [112, 108, 101, 100, 103, 101], [108, 97, 115, 116, 115], [100, 97, 121, 115], [114, 117, 110, 115], [99, 111, 112, 105, 101, 115], [114, 111, 108, 101, 115], [109, 101], [116, 101], [98, 97, 121]]
theorem names28_spec (H) : Spec Tryd.prog 36 [] H (Ret [texts nameList] H) := by
  refine Spec.of [] Tryd.func36 rfl (by kernel_rfl) ?_
  simp (maxSteps := 4000000) -implicitDefEqProofs only [go_sem, vc_cond, Tryd.results36, Nat.reduceEqDiff, Nat.reduceAdd, Nat.reduceLeDiff, Nat.reduceLT, Nat.reduceMul, Nat.reduceSub, List.reduceReplicate, Int.reduceToNat, Int.reduceLT, Int.reduceLE, Int.reduceEq, Int.reduceAdd, Int.reduceSub, Int.reduceMul, Int.reduceNeg, Nat.zero_add]
  exact .inl rfl
def kindList : List (List UInt8) := [[109, 105, 110, 116], [115, 101, 101, 100], [100, 114, 97, 102, 116], [102, 111, 117, 110, 100], [101, 110, 114, 111, 108], [101, 120, 112, 101, 108], [112, 97, 121], [103, 105, 118, 101], [105, 110, 115, 116, 97, 108, 108],
  [112, 97, 117, 115, 101], [114, 101, 115, 117, 109, 101], [99, 97, 110, 99, 101, 108], [100, 101, 108, 105, 118, 101, 114], [105, 115, 115, 117, 101], [97, 99, 99, 101, 112, 116], [104, 97, 110, 100], [102, 97, 105, 108], [114, 101, 106, 101, 99, 116], [114, 101, 118, 111, 107, 101],
  [116, 105, 99, 107], [109, 111, 110, 101, 121], [115, 116, 97, 99, 107], [106, 111, 98], [100, 101, 97, 108], [99, 108, 111, 99, 107]]
theorem words28_spec (H) : Spec Tryd.prog 38 [] H (Ret [texts kindList] H) := by
  refine Spec.of [] Tryd.func38 rfl (by kernel_rfl) ?_
  simp (maxSteps := 4000000) -implicitDefEqProofs only [go_sem, vc_cond, Tryd.results38, Nat.reduceEqDiff, Nat.reduceAdd, Nat.reduceLeDiff, Nat.reduceLT, Nat.reduceMul, Nat.reduceSub, List.reduceReplicate, Int.reduceToNat, Int.reduceLT, Int.reduceLE, Int.reduceEq, Int.reduceAdd, Int.reduceSub, Int.reduceMul, Int.reduceNeg, Nat.zero_add]
  exact .inl rfl

/-- The place of a text in a list. -/
def posOf (s : List UInt8) : List (List UInt8) → Option Nat
  | [] => none
  | x :: r => if x = s then some 0 else (posOf s r).map (· + 1)
theorem posOf_none {s : List UInt8} : ∀ {l : List (List UInt8)}, s ∉ l → posOf s l = none
  | [], _ => rfl
  | x :: r, h => by
    simp only [List.mem_cons, not_or] at h
    rw [posOf, if_neg (Ne.symm h.1), posOf_none h.2]; rfl
theorem posOf_some {s : List UInt8} : ∀ {l : List (List UInt8)} {k : Nat}, s ∉ l.take k → (h : k < l.length) → l[k] = s → posOf s l = some k
  | x :: r, 0, _, _, he => by rw [posOf, if_pos (by simpa using he)]
  | x :: r, k + 1, hn, h, he => by
    simp only [List.take_succ_cons, List.mem_cons, not_or] at hn
    rw [posOf, if_neg (Ne.symm hn.1), posOf_some hn.2 (by simpa using h) (by simpa using he)]; rfl
theorem posOf_lt {s : List UInt8} : ∀ {l : List (List UInt8)} {k : Nat}, posOf s l = some k → ∃ h : k < l.length, l[k] = s
  | [], _, h => by cases h
  | x :: r, k, h => by
    rw [posOf] at h
    split at h
    · rename_i e; cases h; exact ⟨by simp, e⟩
    · cases hr : posOf s r with
      | none => rw [hr] at h; cases h
      | some j =>
        rw [hr] at h
        cases h
        obtain ⟨h1, h2⟩ := posOf_lt hr
        exact ⟨by simp; omega, by simpa using h2⟩
def posI (o : Option Nat) : Int := match o with | some k => k | none => -1
theorem place28_spec (H) (s : List UInt8) : Spec Tryd.prog 39 [D.str s] H (Ret [D.int (posI (posOf s nameList))] H) := by
  refine Spec.of [] Tryd.func39 rfl (by kernel_rfl) ?_
  simp (maxSteps := 4000000) -implicitDefEqProofs only [go_sem, vc_cond, Tryd.results39, Nat.reduceEqDiff, Nat.reduceAdd, Nat.reduceLeDiff, Nat.reduceLT, Nat.reduceMul, Nat.reduceSub, List.reduceReplicate, Int.reduceToNat, Int.reduceLT, Int.reduceLE, Int.reduceEq, Int.reduceAdd, Int.reduceSub, Int.reduceMul, Int.reduceNeg, Nat.zero_add]
  refine call_of (names28_spec H) (by simp (maxSteps := 4000000) -implicitDefEqProofs only [go_sem, vc_cond, Nat.reduceEqDiff, Nat.reduceAdd, Nat.reduceLeDiff, Nat.reduceLT, Nat.reduceMul, Nat.reduceSub, List.reduceReplicate, Int.reduceToNat, Int.reduceLT, Int.reduceLE, Int.reduceEq, Int.reduceAdd, Int.reduceSub, Int.reduceMul, Int.reduceNeg, Nat.zero_add]) ?_
  simp (maxSteps := 4000000) -implicitDefEqProofs only [go_sem, vc_cond, Tryd.results39, Nat.reduceEqDiff, Nat.reduceAdd, Nat.reduceLeDiff, Nat.reduceLT, Nat.reduceMul, Nat.reduceSub, List.reduceReplicate, Int.reduceToNat, Int.reduceLT, Int.reduceLE, Int.reduceEq, Int.reduceAdd, Int.reduceSub, Int.reduceMul, Int.reduceNeg, Nat.zero_add]
  refine loop_of (fun (k : Nat) => { env := [(0, .d (D.str s)), (3, .d (texts nameList)), (4, .d (D.int k))], L := [], H := H }) (fun k => k ≤ nameList.length ∧ s ∉ nameList.take k) (fun k => nameList.length - k) 0 ⟨by simp, by simp⟩
    (imp_le (by simp (maxSteps := 4000000) -implicitDefEqProofs only [go_sem, vc_cond, Nat.reduceEqDiff, Nat.reduceAdd, Nat.reduceLeDiff, Nat.reduceLT, Nat.reduceMul, Nat.reduceSub, List.reduceReplicate, Int.reduceToNat, Int.reduceLT, Int.reduceLE, Int.reduceEq, Int.reduceAdd, Int.reduceSub, Int.reduceMul, Int.reduceNeg, Nat.zero_add]; try simp)) fun k hk => ?_
  obtain ⟨hk, hn⟩ := hk
  simp (maxSteps := 4000000) -implicitDefEqProofs only [go_sem, vc_cond, Tryd.results39, Nat.reduceEqDiff, Nat.reduceAdd, Nat.reduceLeDiff, Nat.reduceLT, Nat.reduceMul, Nat.reduceSub, List.reduceReplicate, Int.reduceToNat, Int.reduceLT, Int.reduceLE, Int.reduceEq, Int.reduceAdd, Int.reduceSub, Int.reduceMul, Int.reduceNeg, Nat.zero_add]
  intro hm
  refine ⟨fun h => ?_, fun h => ?_⟩
  · simp (maxSteps := 4000000) -implicitDefEqProofs only [go_sem, vc_cond, Tryd.results39, Nat.reduceEqDiff, Nat.reduceAdd, Nat.reduceLeDiff, Nat.reduceLT, Nat.reduceMul, Nat.reduceSub, List.reduceReplicate, Int.reduceToNat, Int.reduceLT, Int.reduceLE, Int.reduceEq, Int.reduceAdd, Int.reduceSub, Int.reduceMul, Int.reduceNeg, Nat.zero_add, h]
    refine ⟨fun hb => ?_, fun hb => ?_⟩
    · have hb : nameList[k] = s := by simpa using hb
      rw [posOf_some hn h hb]; rfl
    · refine ⟨k + 1, ⟨h, ?_⟩, by omega, ?_⟩
      · rw [List.take_succ_eq_append_getElem h]
        simp only [List.mem_append, List.mem_singleton, not_or]
        exact ⟨hn, fun e => by simp [e] at hb⟩
      · rw [wrap_i64 (by omega) (by omega)]; simp
  · have hk' : k = nameList.length := by omega
    subst hk'
    rw [List.take_length] at hn
    rw [posOf_none hn]; rfl

def kindNo (o : Option Nat) : Int := match o with | some k => k + 1 | none => 0
def fieldTab : List (List Nat) := [[1, 9], [1, 2, 6, 8, 9], [1, 2, 6, 8, 16, 17, 13], [0], [0, 1, 4, 15], [0, 1, 4], [0, 1, 4, 9], [0, 1, 2, 4, 5, 6, 8, 9], [0, 1, 2, 18, 3, 8, 13, 14], [0, 3], [0, 3], [0, 3], [0, 3],
  [0, 1, 2, 8, 4, 6, 7, 9, 10, 11, 12], [0, 1, 2, 3], [0, 3], [0, 3], [0, 3], [0, 3], [9], [0, 1], [0, 1, 2, 6, 8], [0, 3], [0, 3], [0]]
/-- The names of a kind's numbers. -/
def fieldsOf (k : Int) : List (List UInt8) := if 1 ≤ k ∧ k ≤ 25 then (fieldTab.getD (k.toNat - 1) []).map (nameList.getD · []) else []
theorem rfields_spec (H) (k : Int) : Spec Tryd.prog 18 [D.int k] H (Ret [texts (fieldsOf k)] H) := by
  refine Spec.of [] Tryd.func18 rfl (by kernel_rfl) ?_
  simp (maxSteps := 4000000) -implicitDefEqProofs only [go_sem, vc_cond, Tryd.results18, Nat.reduceEqDiff, Nat.reduceAdd, Nat.reduceLeDiff, Nat.reduceLT, Nat.reduceMul, Nat.reduceSub, List.reduceReplicate, Int.reduceToNat, Int.reduceLT, Int.reduceLE, Int.reduceEq, Int.reduceAdd, Int.reduceSub, Int.reduceMul, Int.reduceNeg, Nat.zero_add]
  repeat' (first | (intro h; first | (subst h; skip) | skip) | apply And.intro)
  all_goals first
    | (exfalso; omega)
    | exact .inl rfl
    | (rw [fieldsOf, if_neg (by omega)]; rfl)
end Go.Ab
