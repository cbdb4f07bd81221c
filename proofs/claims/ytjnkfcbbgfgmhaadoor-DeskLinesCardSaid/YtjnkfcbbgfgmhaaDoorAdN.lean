import Derived.Test.YtjnkfcbbgfgmhaaDoorAdZ4
set_option linter.unusedSimpArgs false
set_option linter.unusedVariables false
namespace Go.Ab
open Go Go.Ab Go.Proofs

/-- A text that tells a number. -/
def isNum (s : List UInt8) (n : Int) : Prop := -9223372036854775808 ≤ n ∧ n ≤ 9223372036854775807 ∧ Lib.itoa n = s
def valD (l : List UInt8) : Nat := l.foldl (fun a b => 10 * a + (b.toNat - 48)) 0
def digs (l : List UInt8) : Prop := ∀ b ∈ l, 48 ≤ b.toNat ∧ b.toNat ≤ 57
theorem valD_snoc (l : List UInt8) (b : UInt8) : valD (l ++ [b]) = 10 * valD l + (b.toNat - 48) := by simp [valD, List.foldl_append]
theorem valD_take_succ {l : List UInt8} {k : Nat} (h : k < l.length) : valD (l.take (k + 1)) = 10 * valD (l.take k) + (l[k].toNat - 48) := by
  rw [List.take_succ_eq_append_getElem h, valD_snoc]
theorem valD_take_le (l : List UInt8) : ∀ (j k : Nat), valD (l.take k) ≤ valD (l.take (k + j))
  | 0, k => Nat.le_refl _
  | j + 1, k => by
    refine Nat.le_trans (valD_take_le l j k) ?_
    by_cases h : k + j < l.length
    · rw [show k + (j + 1) = k + j + 1 by omega, valD_take_succ h]; omega
    · rw [List.take_of_length_le (by omega), List.take_of_length_le (by omega)]; omega
theorem valD_take_all (l : List UInt8) (k : Nat) : valD (l.take k) ≤ valD l := by
  have := valD_take_le l l.length k
  rwa [List.take_of_length_le (i := k + l.length) (by omega)] at this
theorem dig_toNat {u : Nat} (h : u < 10) : (UInt8.ofNat (48 + u)).toNat = 48 + u := by
  rw [UInt8.toNat_ofNat']; omega
theorem decD (u : Nat) : digs (Lib.decDigits u) ∧ valD (Lib.decDigits u) = u := by
  induction u using Nat.strongRecOn with
  | _ u ih =>
    rw [Lib.decDigits]
    split
    · rename_i h
      refine ⟨?_, ?_⟩
      · intro b hb
        simp only [List.mem_singleton] at hb
        subst hb
        rw [dig_toNat h]; omega
      · show 10 * 0 + ((UInt8.ofNat (48 + u)).toNat - 48) = u
        rw [dig_toNat h]; omega
    · obtain ⟨i1, i2⟩ := ih (u / 10) (by omega)
      refine ⟨?_, ?_⟩
      · intro b hb
        rcases List.mem_append.1 hb with hb | hb
        · exact i1 b hb
        · simp only [List.mem_singleton] at hb
          subst hb
          rw [dig_toNat (by omega)]; omega
      · rw [valD_snoc, i2, dig_toNat (by omega)]; omega
theorem decD_len : ∀ (k u : Nat), u < 10 ^ (k + 1) → (Lib.decDigits u).length ≤ k + 1
  | 0, u, h => by rw [Lib.decDigits, dif_pos (by simpa using h)]; simp
  | k + 1, u, h => by
    rw [Lib.decDigits]
    split
    · simp
    · have := decD_len k (u / 10) (by rw [Nat.pow_succ] at h; omega)
      simp only [List.length_append, List.length_singleton]; omega
theorem decD_pos (u : Nat) : 1 ≤ (Lib.decDigits u).length := by
  rw [Lib.decDigits]; split <;> simp
/-- What a number's text looks like. -/
theorem isNum_cases {s : List UInt8} {n : Int} (h : isNum s n) :
    (0 ≤ n ∧ digs s ∧ valD s = n.toNat ∧ 1 ≤ s.length ∧ s.length ≤ 19 ∧ n ≤ 9223372036854775807) ∨
    (n < 0 ∧ ∃ r, s = 45 :: r ∧ digs r ∧ valD r = (-n).toNat ∧ 1 ≤ r.length ∧ r.length ≤ 19 ∧ -9223372036854775808 ≤ n) := by
  obtain ⟨h1, h2, h3⟩ := h
  by_cases hn : n < 0
  · right
    rw [Lib.itoa, if_pos hn] at h3
    obtain ⟨d1, d2⟩ := decD n.natAbs
    refine ⟨hn, _, h3.symm, d1, by rw [d2]; omega, decD_pos _, decD_len 18 _ (by omega), h1⟩
  · left
    rw [Lib.itoa, if_neg hn] at h3
    obtain ⟨d1, d2⟩ := decD n.toNat
    subst h3
    exact ⟨by omega, d1, d2, decD_pos _, decD_len 18 _ (by omega), h2⟩
end Go.Ab
