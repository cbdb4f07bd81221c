import Derived.Test.YtjnkfcbbgfgmhaaDoorAdZ3
import Derived.Lib.ItoaLen
set_option linter.unusedSimpArgs false
set_option linter.unusedVariables false
namespace Go.Ab
open Go Go.Ab Go.Proofs
set_option maxRecDepth 100000

def Cmd.same (a b : Cmd) : Bool := decide (a.nums = b.nums) && decide (a.kind = b.kind) && decide (a.gives = b.gives) && decide (a.wants = b.wants)
theorem same28_spec (H : Hp) (a b : Cmd) : Spec Tryd.prog 8 [a.enc, b.enc] H (Ret [D.bool (a.same b)] H) := by
  refine Spec.of [] Tryd.func8 rfl (by kernel_rfl) ?_
  simp (maxSteps := 4000000) -implicitDefEqProofs only [go_sem, vc_cond, Tryd.results8, Nat.reduceEqDiff, Nat.reduceAdd, Nat.reduceLeDiff, Nat.reduceLT, Nat.reduceMul, Nat.reduceSub, List.reduceReplicate, Int.reduceToNat, Int.reduceLT, Int.reduceLE, Int.reduceEq, Int.reduceAdd, Int.reduceSub, Int.reduceMul, Int.reduceNeg, Nat.zero_add, encS]
  refine draw_of 6 [(9, [ints a.nums]), (11, [ints b.nums])] (by kernel_rfl) ?_
  simp (maxSteps := 4000000) -implicitDefEqProofs only [go_sem, vc_cond, Tryd.results8, Nat.reduceEqDiff, Nat.reduceAdd, Nat.reduceLeDiff, Nat.reduceLT, Nat.reduceMul, Nat.reduceSub, List.reduceReplicate, Int.reduceToNat, Int.reduceLT, Int.reduceLE, Int.reduceEq, Int.reduceAdd, Int.reduceSub, Int.reduceMul, Int.reduceNeg, Nat.zero_add, encS]
  refine ⟨all28_spec H a, all28_spec H b, ?_⟩
  have ha : a.nums.length = 19 := by simp [Cmd.nums]
  have hb : b.nums.length = 19 := by simp [Cmd.nums]
  refine loop_of (fun (k : Nat) => { env := [(2, .lp 2 0), (3, .lp 3 0), (5, .d (ints a.nums)), (6, .d (ints b.nums)), (7, .d (D.int k))], L := [(2, .box (a.enc.cells.map V.d)), (3, .box (b.enc.cells.map V.d))], H := H })
    (fun k => k ≤ 19 ∧ a.nums.take k = b.nums.take k) (fun k => 19 - k) 0 ⟨by simp, by simp⟩
    (imp_le (by simp (maxSteps := 4000000) -implicitDefEqProofs only [go_sem, vc_cond, Nat.reduceEqDiff, Nat.reduceAdd, Nat.reduceLeDiff, Nat.reduceLT, Nat.reduceMul, Nat.reduceSub, List.reduceReplicate, Int.reduceToNat, Int.reduceLT, Int.reduceLE, Int.reduceEq, Int.reduceAdd, Int.reduceSub, Int.reduceMul, Int.reduceNeg, Nat.zero_add, encS, D.cells]; try simp)) fun k hk => ?_
  obtain ⟨hk, hn⟩ := hk
  simp (maxSteps := 4000000) -implicitDefEqProofs only [go_sem, vc_cond, Tryd.results8, Nat.reduceEqDiff, Nat.reduceAdd, Nat.reduceLeDiff, Nat.reduceLT, Nat.reduceMul, Nat.reduceSub, List.reduceReplicate, Int.reduceToNat, Int.reduceLT, Int.reduceLE, Int.reduceEq, Int.reduceAdd, Int.reduceSub, Int.reduceMul, Int.reduceNeg, Nat.zero_add, ha, hb, encS]
  refine ⟨fun h => ?_, fun h => ?_⟩
  · have h19 : k < 19 := by omega
    have h20 : k < a.nums.length := by omega
    have h21 : k < b.nums.length := by omega
    refine draw_of 9 [] (by kernel_rfl) ?_
    simp (maxSteps := 4000000) -implicitDefEqProofs only [go_sem, vc_cond, Tryd.results8, Nat.reduceEqDiff, Nat.reduceAdd, Nat.reduceLeDiff, Nat.reduceLT, Nat.reduceMul, Nat.reduceSub, List.reduceReplicate, Int.reduceToNat, Int.reduceLT, Int.reduceLE, Int.reduceEq, Int.reduceAdd, Int.reduceSub, Int.reduceMul, Int.reduceNeg, Nat.zero_add, ha, hb, h19, encS]
    refine ⟨h, h, fun hne => ?_, fun he => ⟨k + 1, ⟨h19, ?_⟩, by omega, ?_⟩⟩
    · have : a.nums ≠ b.nums := fun e => hne (by simp [e])
      simp [Cmd.same, this]
    · rw [List.take_succ_eq_append_getElem h20, List.take_succ_eq_append_getElem h21, hn, he]
    · rw [wrap_i64 (by omega) (by omega)]; simp
  · have hk' : k = 19 := by
      have : ¬ k < 19 := fun e => by
        have e2 : (k : Int) < 19 := by omega
        simp [e2] at h
      omega
    subst hk'
    have he : a.nums = b.nums := by
      rw [List.take_of_length_le (by omega), List.take_of_length_le (by omega)] at hn; exact hn
    unfold Cmd.same
    refine ⟨fun hkd => ?_, fun hkd => ?_⟩
    · refine ⟨hkd, call_of (same_spec H a.gives b.gives) (by simp (maxSteps := 4000000) -implicitDefEqProofs only [go_sem, vc_cond, Nat.reduceEqDiff, Nat.reduceAdd, Nat.reduceLeDiff, Nat.reduceLT, Nat.reduceMul, Nat.reduceSub, List.reduceReplicate, Int.reduceToNat, Int.reduceLT, Int.reduceLE, Int.reduceEq, Int.reduceAdd, Int.reduceSub, Int.reduceMul, Int.reduceNeg, Nat.zero_add, encS]) ?_⟩
      simp (maxSteps := 4000000) -implicitDefEqProofs only [go_sem, vc_cond, Tryd.results8, Nat.reduceEqDiff, Nat.reduceAdd, Nat.reduceLeDiff, Nat.reduceLT, Nat.reduceMul, Nat.reduceSub, List.reduceReplicate, Int.reduceToNat, Int.reduceLT, Int.reduceLE, Int.reduceEq, Int.reduceAdd, Int.reduceSub, Int.reduceMul, Int.reduceNeg, Nat.zero_add, encS]
      refine ⟨fun hg => ?_, fun hg => ?_⟩
      · refine ⟨hg, call_of (same_spec H a.wants b.wants) (by simp (maxSteps := 4000000) -implicitDefEqProofs only [go_sem, vc_cond, Nat.reduceEqDiff, Nat.reduceAdd, Nat.reduceLeDiff, Nat.reduceLT, Nat.reduceMul, Nat.reduceSub, List.reduceReplicate, Int.reduceToNat, Int.reduceLT, Int.reduceLE, Int.reduceEq, Int.reduceAdd, Int.reduceSub, Int.reduceMul, Int.reduceNeg, Nat.zero_add, encS]) ?_⟩
        simp (maxSteps := 4000000) -implicitDefEqProofs only [go_sem, vc_cond, Tryd.results8, Nat.reduceEqDiff, Nat.reduceAdd, Nat.reduceLeDiff, Nat.reduceLT, Nat.reduceMul, Nat.reduceSub, List.reduceReplicate, Int.reduceToNat, Int.reduceLT, Int.reduceLE, Int.reduceEq, Int.reduceAdd, Int.reduceSub, Int.reduceMul, Int.reduceNeg, Nat.zero_add, encS]
        simp [he, hkd, hg.2]
      · refine ⟨hg, ?_⟩
        simp only [Bool.and_assoc] at hg ⊢
        rw [← Bool.and_assoc (decide (a.kind = b.kind)), hg]
        simp
    · refine ⟨hkd, ?_⟩
      simp [hkd]

/-- A number in decimal digits. -/
theorem itoa_small {n : Int} (h0 : 0 ≤ n) (h1 : n ≤ 9) : Lib.itoa n = [UInt8.ofNat (48 + n.toNat)] := by
  rw [Lib.itoa, if_neg (by omega), Lib.decDigits, dif_pos (by omega)]
theorem itoa_pos {n : Int} (h1 : 9 < n) : Lib.itoa n = Lib.itoa (n.tdiv 10) ++ Lib.itoa (n.tmod 10) := by
  have e1 : n.tdiv 10 = n / 10 := Int.tdiv_eq_ediv_of_nonneg (by omega)
  have e2 : n.tmod 10 = n % 10 := Int.tmod_eq_emod_of_nonneg (by omega)
  rw [e1, e2, itoa_small (n := n % 10) (by omega) (by omega), Lib.itoa, if_neg (by omega), Lib.itoa, if_neg (by omega), Lib.decDigits, dif_neg (by omega)]
  congr 3 <;> omega
theorem itoa_neg1 {n : Int} (h0 : n < 0) (h1 : -10 < n) : Lib.itoa n = [45] ++ Lib.itoa (0 - n) := by
  rw [Lib.itoa, if_pos h0, Lib.itoa, if_neg (by omega)]
  have : n.natAbs = (0 - n).toNat := by omega
  rw [this]; rfl
theorem tdiv_neg10 {n : Int} (h1 : n ≤ 0) : n.tdiv 10 = -((-n) / 10) ∧ n.tmod 10 = -((-n) % 10) := by
  obtain ⟨p, rfl⟩ : ∃ p, n = -p := ⟨-n, by omega⟩
  rw [Int.neg_tdiv, Int.neg_tmod, Int.neg_neg, Int.tdiv_eq_ediv_of_nonneg (by omega), Int.tmod_eq_emod_of_nonneg (by omega)]
  exact ⟨rfl, rfl⟩
theorem itoa_neg2 {n : Int} (h1 : n ≤ -10) : Lib.itoa n = Lib.itoa (n.tdiv 10) ++ Lib.itoa (0 - n.tmod 10) := by
  obtain ⟨e1, e2⟩ := tdiv_neg10 (n := n) (by omega)
  rw [e1, e2, itoa_small (n := 0 - -((-n) % 10)) (by omega) (by omega), Lib.itoa, if_pos (by omega), Lib.itoa, if_pos (by omega), Lib.decDigits, dif_neg (by omega), List.cons_append]
  congr 4 <;> omega
theorem numText_spec (H : Hp) : ∀ (m : Nat) (n : Int), 2 * n.natAbs + (if n < 0 then 1 else 0) ≤ m → -9223372036854775808 ≤ n → n ≤ 9223372036854775807 → Spec Tryd.prog 20 [D.int n] H (Ret [D.str (Lib.itoa n)] H) := by
  intro m
  induction m with
  | zero =>
    intro n h0 h1 h2
    have : n = 0 := by split at h0 <;> omega
    subst this
    refine Spec.of [] Tryd.func20 rfl (by kernel_rfl) ?_
    simp (maxSteps := 4000000) -implicitDefEqProofs only [go_sem, vc_cond, Tryd.results20, Nat.reduceEqDiff, Nat.reduceAdd, Nat.reduceLeDiff, Nat.reduceLT, Nat.reduceMul, Nat.reduceSub, List.reduceReplicate, Int.reduceToNat, Int.reduceLT, Int.reduceLE, Int.reduceEq, Int.reduceAdd, Int.reduceSub, Int.reduceMul, Int.reduceNeg, Nat.zero_add]
    rw [itoa_small (by omega) (by omega)]; rfl
  | succ m ih =>
    intro n h0 h1 h2
    refine Spec.of [] Tryd.func20 rfl (by kernel_rfl) ?_
    simp (maxSteps := 4000000) -implicitDefEqProofs only [go_sem, vc_cond, Tryd.results20, Nat.reduceEqDiff, Nat.reduceAdd, Nat.reduceLeDiff, Nat.reduceLT, Nat.reduceMul, Nat.reduceSub, List.reduceReplicate, Int.reduceToNat, Int.reduceLT, Int.reduceLE, Int.reduceEq, Int.reduceAdd, Int.reduceSub, Int.reduceMul, Int.reduceNeg, Nat.zero_add]
    refine ⟨fun hn => ⟨fun hs => ?_, fun hs => ?_⟩, fun hn => ⟨fun hs => ?_, fun hs => ?_⟩⟩
    · rw [if_pos hn] at h0
      rw [wrap_i64 (by omega) (by omega)]
      refine call_of (ih (0 - n) (by rw [if_neg (by omega)]; omega) (by omega) (by omega)) (by simp (maxSteps := 4000000) -implicitDefEqProofs only [go_sem, vc_cond, Nat.reduceEqDiff, Nat.reduceAdd, Nat.reduceLeDiff, Nat.reduceLT, Nat.reduceMul, Nat.reduceSub, List.reduceReplicate, Int.reduceToNat, Int.reduceLT, Int.reduceLE, Int.reduceEq, Int.reduceAdd, Int.reduceSub, Int.reduceMul, Int.reduceNeg, Nat.zero_add]) ?_
      simp (maxSteps := 4000000) -implicitDefEqProofs only [go_sem, vc_cond, Tryd.results20, Nat.reduceEqDiff, Nat.reduceAdd, Nat.reduceLeDiff, Nat.reduceLT, Nat.reduceMul, Nat.reduceSub, List.reduceReplicate, Int.reduceToNat, Int.reduceLT, Int.reduceLE, Int.reduceEq, Int.reduceAdd, Int.reduceSub, Int.reduceMul, Int.reduceNeg, Nat.zero_add]
      have := Lib.itoa_length_le (0 - n) (by omega) (by omega)
      exact ⟨by omega, (itoa_neg1 hn hs).symm⟩
    · rw [if_pos hn] at h0
      obtain ⟨e1, e2⟩ := tdiv_neg10 (n := n) (by omega)
      rw [wrap_i64 (by omega) (by omega)]
      refine call_of (ih (n.tdiv 10) (by split <;> omega) (by omega) (by omega)) (by simp (maxSteps := 4000000) -implicitDefEqProofs only [go_sem, vc_cond, Nat.reduceEqDiff, Nat.reduceAdd, Nat.reduceLeDiff, Nat.reduceLT, Nat.reduceMul, Nat.reduceSub, List.reduceReplicate, Int.reduceToNat, Int.reduceLT, Int.reduceLE, Int.reduceEq, Int.reduceAdd, Int.reduceSub, Int.reduceMul, Int.reduceNeg, Nat.zero_add]) ?_
      simp (maxSteps := 4000000) -implicitDefEqProofs only [go_sem, vc_cond, Tryd.results20, Nat.reduceEqDiff, Nat.reduceAdd, Nat.reduceLeDiff, Nat.reduceLT, Nat.reduceMul, Nat.reduceSub, List.reduceReplicate, Int.reduceToNat, Int.reduceLT, Int.reduceLE, Int.reduceEq, Int.reduceAdd, Int.reduceSub, Int.reduceMul, Int.reduceNeg, Nat.zero_add]
      rw [wrap_i64 (by omega) (by omega)]
      refine call_of (ih (0 - n.tmod 10) (by rw [if_neg (by omega)]; omega) (by omega) (by omega)) (by simp (maxSteps := 4000000) -implicitDefEqProofs only [go_sem, vc_cond, Nat.reduceEqDiff, Nat.reduceAdd, Nat.reduceLeDiff, Nat.reduceLT, Nat.reduceMul, Nat.reduceSub, List.reduceReplicate, Int.reduceToNat, Int.reduceLT, Int.reduceLE, Int.reduceEq, Int.reduceAdd, Int.reduceSub, Int.reduceMul, Int.reduceNeg, Nat.zero_add]) ?_
      simp (maxSteps := 4000000) -implicitDefEqProofs only [go_sem, vc_cond, Tryd.results20, Nat.reduceEqDiff, Nat.reduceAdd, Nat.reduceLeDiff, Nat.reduceLT, Nat.reduceMul, Nat.reduceSub, List.reduceReplicate, Int.reduceToNat, Int.reduceLT, Int.reduceLE, Int.reduceEq, Int.reduceAdd, Int.reduceSub, Int.reduceMul, Int.reduceNeg, Nat.zero_add]
      have l1 := Lib.itoa_length_le (n.tdiv 10) (by omega) (by omega)
      have l2 := Lib.itoa_length_le (0 - n.tmod 10) (by omega) (by omega)
      exact ⟨by omega, (itoa_neg2 (by omega)).symm⟩
    · rw [if_neg hn] at h0
      have e1 : n.tdiv 10 = n / 10 := Int.tdiv_eq_ediv_of_nonneg (by omega)
      have e2 : n.tmod 10 = n % 10 := Int.tmod_eq_emod_of_nonneg (by omega)
      rw [wrap_i64 (by omega) (by omega)]
      refine call_of (ih (n.tdiv 10) (by rw [if_neg (by omega)]; omega) (by omega) (by omega)) (by simp (maxSteps := 4000000) -implicitDefEqProofs only [go_sem, vc_cond, Nat.reduceEqDiff, Nat.reduceAdd, Nat.reduceLeDiff, Nat.reduceLT, Nat.reduceMul, Nat.reduceSub, List.reduceReplicate, Int.reduceToNat, Int.reduceLT, Int.reduceLE, Int.reduceEq, Int.reduceAdd, Int.reduceSub, Int.reduceMul, Int.reduceNeg, Nat.zero_add]) ?_
      simp (maxSteps := 4000000) -implicitDefEqProofs only [go_sem, vc_cond, Tryd.results20, Nat.reduceEqDiff, Nat.reduceAdd, Nat.reduceLeDiff, Nat.reduceLT, Nat.reduceMul, Nat.reduceSub, List.reduceReplicate, Int.reduceToNat, Int.reduceLT, Int.reduceLE, Int.reduceEq, Int.reduceAdd, Int.reduceSub, Int.reduceMul, Int.reduceNeg, Nat.zero_add]
      refine call_of (ih (n.tmod 10) (by rw [if_neg (by omega)]; omega) (by omega) (by omega)) (by simp (maxSteps := 4000000) -implicitDefEqProofs only [go_sem, vc_cond, Nat.reduceEqDiff, Nat.reduceAdd, Nat.reduceLeDiff, Nat.reduceLT, Nat.reduceMul, Nat.reduceSub, List.reduceReplicate, Int.reduceToNat, Int.reduceLT, Int.reduceLE, Int.reduceEq, Int.reduceAdd, Int.reduceSub, Int.reduceMul, Int.reduceNeg, Nat.zero_add]) ?_
      simp (maxSteps := 4000000) -implicitDefEqProofs only [go_sem, vc_cond, Tryd.results20, Nat.reduceEqDiff, Nat.reduceAdd, Nat.reduceLeDiff, Nat.reduceLT, Nat.reduceMul, Nat.reduceSub, List.reduceReplicate, Int.reduceToNat, Int.reduceLT, Int.reduceLE, Int.reduceEq, Int.reduceAdd, Int.reduceSub, Int.reduceMul, Int.reduceNeg, Nat.zero_add]
      have l1 := Lib.itoa_length_le (n.tdiv 10) (by omega) (by omega)
      have l2 := Lib.itoa_length_le (n.tmod 10) (by omega) (by omega)
      exact ⟨by omega, (itoa_pos (by omega)).symm⟩
    · rw [wrap_i64 (by omega) (by omega), itoa_small (by omega) (by omega)]
      have : n = 0 ∨ n = 1 ∨ n = 2 ∨ n = 3 ∨ n = 4 ∨ n = 5 ∨ n = 6 ∨ n = 7 ∨ n = 8 ∨ n = 9 := by omega
      rcases this with rfl | rfl | rfl | rfl | rfl | rfl | rfl | rfl | rfl | rfl <;> rfl
end Go.Ab
