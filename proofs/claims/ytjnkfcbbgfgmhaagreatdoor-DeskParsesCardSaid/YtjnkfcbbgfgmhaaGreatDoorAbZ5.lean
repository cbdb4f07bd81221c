import Derived.Test.YtjnkfcbbgfgmhaaGreatDoorAbN
set_option linter.unusedSimpArgs false
set_option linter.unusedVariables false
namespace Go.Ab
open Go Go.Ab Go.Proofs
set_option maxRecDepth 100000

def NumQ (s : List UInt8) (H : Hp) (rs : List D) (H' : Hp) : Prop := ∃ m q, rs = [D.int m, D.bool q] ∧ H' = H ∧ (q = true → isNum s m) ∧ (q = false → ∀ n, ¬ isNum s n)
theorem NumQ_no {s : List UInt8} {H : Hp} (m : Int) (h : ∀ n, ¬ isNum s n) : NumQ s H [D.int m, D.bool false] H := ⟨m, false, rfl, rfl, fun e => (by cases e), fun _ => h⟩
theorem isNum_len {s : List UInt8} {n : Int} (h : isNum s n) : 1 ≤ s.length ∧ s.length ≤ 20 := by
  rcases isNum_cases h with ⟨_, _, _, h1, h2, _⟩ | ⟨_, r, rfl, _, _, h1, h2, _⟩
  · omega
  · simp only [List.length_cons]; omega
theorem isNum_dg {s : List UInt8} {n : Int} {bel : Bool} (hbel : decide (((s.getD 0 0).toNat : Int) = 45) = bel) (h : isNum s n) :
    digs (s.drop bel.toNat) ∧ n = (if bel = true then -(valD (s.drop bel.toNat) : Int) else (valD (s.drop bel.toNat) : Int)) ∧ valD (s.drop bel.toNat) ≤ 9223372036854775808 ∧ (bel = false → valD (s.drop bel.toNat) ≤ 9223372036854775807) := by
  rcases isNum_cases h with ⟨h0, h1, h2, h3, h4, h5⟩ | ⟨h0, r, rfl, h1, h2, h3, h4, h5⟩
  · have : bel = false := by
      subst hbel
      apply decide_eq_false
      cases s with
      | nil => simp at h3
      | cons x r =>
        have := h1 x (List.mem_cons_self ..)
        simp only [List.getD_cons_zero]; omega
    subst this
    simp only [Bool.toNat_false, List.drop_zero, Bool.false_eq_true, if_false]
    exact ⟨h1, by omega, by omega, fun _ => by omega⟩
  · have : bel = true := by subst hbel; rfl
    subst this
    simp only [Bool.toNat_true, List.drop_succ_cons, List.drop_zero, if_true]
    exact ⟨h1, by omega, by omega, fun e => by cases e⟩
theorem rnumber_spec (H : Hp) (s : List UInt8) : Spec Tryz.prog 8 [D.str s] H (NumQ s H) := by
  refine Spec.ofD [] Tryz.func8 rfl (by kernel_rfl) ?_
  simp (maxSteps := 4000000) -implicitDefEqProofs only [go_sem, vc_cond, Tryz.results8, Nat.reduceEqDiff, Nat.reduceAdd, Nat.reduceLeDiff, Nat.reduceLT, Nat.reduceMul, Nat.reduceSub, List.reduceReplicate, Int.reduceToNat, Int.reduceLT, Int.reduceLE, Int.reduceEq, Int.reduceAdd, Int.reduceSub, Int.reduceMul, Int.reduceNeg, Nat.zero_add]
  intro hm
  intro _
  refine ⟨fun hl => NumQ_no _ fun n hn => ?_, fun hl => ⟨?_, ?_⟩⟩
  · have := isNum_len hn
    omega
  · simp only [Bool.or_eq_false_iff, decide_eq_false_iff_not] at hl; omega
  · have hl1 : 0 < s.length := by simp only [Bool.or_eq_false_iff, decide_eq_false_iff_not] at hl; omega
    have hl2 : s.length ≤ 20 := by simp only [Bool.or_eq_false_iff, decide_eq_false_iff_not] at hl; omega
    generalize hbel : decide (((s.getD 0 0).toNat : Int) = 45) = bel
    refine loop_of (fun (x : Nat × Int) => { env := [(0, .d (D.str s)), (4, .d (D.bool bel)), (5, .d (D.int x.2)), (6, .d (D.int x.1))], L := [], H := H })
      (fun x => x.1 ≤ s.length ∧ x.2 = -(valD ((s.drop bel.toNat).take (x.1 - bel.toNat)) : Int) ∧ valD ((s.drop bel.toNat).take (x.1 - bel.toNat)) ≤ 9223372036854775808) (fun x => s.length - x.1) (0, 0) ⟨by simp, by simp [valD], by simp [valD]⟩
      (imp_le (by simp (maxSteps := 4000000) -implicitDefEqProofs only [go_sem, vc_cond, Nat.reduceEqDiff, Nat.reduceAdd, Nat.reduceLeDiff, Nat.reduceLT, Nat.reduceMul, Nat.reduceSub, List.reduceReplicate, Int.reduceToNat, Int.reduceLT, Int.reduceLE, Int.reduceEq, Int.reduceAdd, Int.reduceSub, Int.reduceMul, Int.reduceNeg, Nat.zero_add]; try simp [hbel])) fun ⟨k, acc⟩ hx => ?_
    obtain ⟨hk, hacc, hv⟩ := hx
    simp only at hk hacc hv
    simp (maxSteps := 4000000) -implicitDefEqProofs only [go_sem, vc_cond, Tryz.results8, Nat.reduceEqDiff, Nat.reduceAdd, Nat.reduceLeDiff, Nat.reduceLT, Nat.reduceMul, Nat.reduceSub, List.reduceReplicate, Int.reduceToNat, Int.reduceLT, Int.reduceLE, Int.reduceEq, Int.reduceAdd, Int.reduceSub, Int.reduceMul, Int.reduceNeg, Nat.zero_add]
    intro _
    refine ⟨fun h => ⟨fun hz => ⟨(k + 1, acc), ⟨h, ?_, ?_⟩, by simp only; omega, rfl, by rw [wrap_i64 (by omega) (by omega)]; simp⟩, fun hz => ?_⟩, fun h => ⟨fun hb => ?_, fun hb => ?_⟩⟩
    · obtain ⟨h1, rfl⟩ := hz
      have : k = 0 := by omega
      subst this
      exact hacc
    · obtain ⟨h1, rfl⟩ := hz
      have : k = 0 := by omega
      subst this
      exact hv
    · have hle : bel.toNat ≤ k := by
        cases bel
        · simp
        · simp at hz ⊢; omega
      have hlt : k - bel.toNat < (s.drop bel.toNat).length := by rw [List.length_drop]; omega
      have hget : (s.drop bel.toNat)[k - bel.toNat] = s[k] := by
        rw [List.getElem_drop]; congr 1; omega
      have hstep := valD_take_succ hlt
      rw [hget, show k - bel.toNat + 1 = k + 1 - bel.toNat by omega] at hstep
      rw [getD_lt h]
      have hb8 := s[k].toNat_lt
      generalize hd : s[k].toNat = d at *
      have no1 : (d < 48 ∨ 57 < d) → ∀ n, ¬ isNum s n := fun hx n hn => by
        have := (isNum_dg hbel hn).1 s[k] (by rw [← hget]; exact List.getElem_mem hlt)
        omega
      have no2 : 9223372036854775808 < valD ((s.drop bel.toNat).take (k + 1 - bel.toNat)) → ∀ n, ¬ isNum s n := fun hx n hn => by
        have h1 := (isNum_dg hbel hn).2.2.1
        have h2 := valD_take_all (s.drop bel.toNat) (k + 1 - bel.toNat)
        omega
      generalize valD ((s.drop bel.toNat).take (k - bel.toNat)) = v at *
      refine ⟨h, fun _ => h, fun hx => NumQ_no _ ?_, fun hx => ?_⟩
      · rcases hx with hx | hx
        · exact no1 (by omega)
        · by_cases hy : d < 48 ∨ 57 < d
          · exact no1 hy
          · exact no2 (by omega)
      · have hx1 : 48 ≤ d ∧ d ≤ 57 ∧ v ≤ 922337203685477580 := by
          simp only [Bool.or_eq_false_iff, decide_eq_false_iff_not] at hx
          omega
        have e8 : IntKind.wrap .u8 ((d : Int) - 48) = d - 48 := by
          have : ∀ d : Nat, 48 ≤ d → d ≤ 57 → IntKind.wrap .u8 ((d : Int) - 48) = d - 48 := by
            intro d h1 h2
            have : d = 48 ∨ d = 49 ∨ d = 50 ∨ d = 51 ∨ d = 52 ∨ d = 53 ∨ d = 54 ∨ d = 55 ∨ d = 56 ∨ d = 57 := by omega
            rcases this with rfl | rfl | rfl | rfl | rfl | rfl | rfl | rfl | rfl | rfl <;> rfl
          exact this d hx1.1 hx1.2.1
        rw [e8, wrap_i64 (n := (d : Int) - 48) (by omega) (by omega), wrap_i64 (n := 10 * acc) (by omega) (by omega), wrap_i64 (n := -9223372036854775808 + ((d : Int) - 48)) (by omega) (by omega)]
        refine ⟨h, fun hlt2 => NumQ_no _ (no2 (by omega)), fun hge => ⟨(k + 1, 10 * acc - ((d : Int) - 48)), ⟨h, by simp only; omega, by simp only; omega⟩, by simp only; omega, ?_, ?_⟩⟩
        · rw [wrap_i64 (by omega) (by omega)]
        · rw [wrap_i64 (by omega) (by omega)]; simp
    · subst hb
      have hk' : k = s.length := by omega
      subst hk'
      simp only [Bool.toNat_false, List.drop_zero, Nat.sub_zero, List.take_length] at hacc hv
      refine ⟨fun hx => NumQ_no _ fun n hn => ?_, fun hx => ?_⟩
      · have := (isNum_dg hbel hn).2.2.2 rfl
        simp only [Bool.toNat_false, List.drop_zero] at this
        omega
      · rw [wrap_i64 (by omega) (by omega)]
        refine call_of (numText_spec H _ (0 - acc) (Nat.le_refl _) (by omega) (by omega)) (by simp (maxSteps := 4000000) -implicitDefEqProofs only [go_sem, vc_cond, Nat.reduceEqDiff, Nat.reduceAdd, Nat.reduceLeDiff, Nat.reduceLT, Nat.reduceMul, Nat.reduceSub, List.reduceReplicate, Int.reduceToNat, Int.reduceLT, Int.reduceLE, Int.reduceEq, Int.reduceAdd, Int.reduceSub, Int.reduceMul, Int.reduceNeg, Nat.zero_add]) ?_
        simp (maxSteps := 4000000) -implicitDefEqProofs only [go_sem, vc_cond, Tryz.results8, Nat.reduceEqDiff, Nat.reduceAdd, Nat.reduceLeDiff, Nat.reduceLT, Nat.reduceMul, Nat.reduceSub, List.reduceReplicate, Int.reduceToNat, Int.reduceLT, Int.reduceLE, Int.reduceEq, Int.reduceAdd, Int.reduceSub, Int.reduceMul, Int.reduceNeg, Nat.zero_add]
        refine ⟨0 - acc, decide (Lib.itoa (0 - acc) = s), rfl, rfl, fun e => ⟨by omega, by omega, of_decide_eq_true e⟩, fun e n hn => ?_⟩
        have h2 := (isNum_dg hbel hn).2.1
        simp only [Bool.toNat_false, List.drop_zero, Bool.false_eq_true, if_false] at h2
        have : n = 0 - acc := by omega
        subst this
        exact (of_decide_eq_false e) hn.2.2
    · subst hb
      have hk' : k = s.length := by omega
      subst hk'
      have e0 : (s.drop 1).take (s.length - 1) = s.drop 1 := List.take_of_length_le (by rw [List.length_drop]; omega)
      simp only [Bool.toNat_true, e0] at hacc hv
      refine call_of (numText_spec H _ acc (Nat.le_refl _) (by omega) (by omega)) (by simp (maxSteps := 4000000) -implicitDefEqProofs only [go_sem, vc_cond, Nat.reduceEqDiff, Nat.reduceAdd, Nat.reduceLeDiff, Nat.reduceLT, Nat.reduceMul, Nat.reduceSub, List.reduceReplicate, Int.reduceToNat, Int.reduceLT, Int.reduceLE, Int.reduceEq, Int.reduceAdd, Int.reduceSub, Int.reduceMul, Int.reduceNeg, Nat.zero_add]) ?_
      simp (maxSteps := 4000000) -implicitDefEqProofs only [go_sem, vc_cond, Tryz.results8, Nat.reduceEqDiff, Nat.reduceAdd, Nat.reduceLeDiff, Nat.reduceLT, Nat.reduceMul, Nat.reduceSub, List.reduceReplicate, Int.reduceToNat, Int.reduceLT, Int.reduceLE, Int.reduceEq, Int.reduceAdd, Int.reduceSub, Int.reduceMul, Int.reduceNeg, Nat.zero_add]
      refine ⟨acc, decide (Lib.itoa acc = s), rfl, rfl, fun e => ⟨by omega, by omega, of_decide_eq_true e⟩, fun e n hn => ?_⟩
      have h2 := (isNum_dg hbel hn).2.1
      simp only [Bool.toNat_true, if_true] at h2
      have : n = acc := by omega
      subst this
      exact (of_decide_eq_false e) hn.2.2
end Go.Ab
