import Derived.Test.YtjnkfcbbgfgmhaaDoorAdP1
import Derived.Lib.Split
import Derived.Lib.SplitLaws
import Derived.Lib.IndexMore
import Derived.Lib.ParseIntBTie
set_option linter.unusedSimpArgs false
set_option linter.unusedVariables false
namespace Go.Ab
open Go Go.Ab Go.Proofs
theorem idx_eq (c : UInt8) (l : List UInt8) : Lib.index (c :: l) [c] = 0 := by
  unfold Lib.index; rw [if_pos (by simp [List.isPrefixOf])]
theorem idx_ne {b c : UInt8} (l : List UInt8) (h : b ≠ c) : Lib.index (b :: l) [c] = if Lib.index l [c] = -1 then -1 else Lib.index l [c] + 1 := by
  rw [Lib.index, if_neg (by simp [List.isPrefixOf, Ne.symm h])]
  simp only [beq_iff_eq]
theorem cut_one (b : UInt8) : ∀ (l : List UInt8), Lib.cut l [b] = cutAt b l
  | [] => by simp [Lib.cut, cutAt, Lib.index]
  | x :: r => by
    have ih := cut_one b r
    rw [cutAt]
    by_cases hx : x = b
    · subst hx
      rw [if_pos rfl, Lib.cut, idx_eq]
      simp
    · rw [if_neg hx, ← ih]
      unfold Lib.cut
      rw [idx_ne r hx]
      have hge := Lib.index_ge r [b]
      by_cases hi : Lib.index r [b] = -1
      · rw [if_pos hi, hi]; simp
      · rw [if_neg hi, if_pos (by omega), if_pos (by omega)]
        have e : (Lib.index r [b] + 1).toNat = (Lib.index r [b]).toNat + 1 := by omega
        rw [e]
        simp [Nat.add_right_comm]
def mapHead (f : List UInt8 → List UInt8) : List (List UInt8) → List (List UInt8)
  | [] => []
  | x :: r => f x :: r
theorem splitAcc_pre (b : UInt8) : ∀ (l p : List UInt8), splitAcc b p l = mapHead (p ++ ·) (splitAcc b [] l)
  | [], p => by simp [splitAcc, mapHead]
  | x :: r, p => by
    rw [splitAcc, splitAcc]
    by_cases hx : x = b
    · rw [if_pos hx, if_pos hx]; simp [mapHead]
    · rw [if_neg hx, if_neg hx, splitAcc_pre b r (p ++ [x]), splitAcc_pre b r ([] ++ [x])]
      cases splitAcc b [] r <;> simp [mapHead]
theorem split_one (b : UInt8) : ∀ (l : List UInt8), Lib.splitK [b] 0 (Lib.count l [b]) l = splitAcc b [] l
  | [] => by simp [splitAcc, Lib.count, Lib.countFrom, Lib.index, Lib.splitK]
  | x :: r => by
    have ih := split_one b r
    rw [splitAcc]
    by_cases hx : x = b
    · subst hx
      rw [if_pos rfl, Lib.count_cons_eq, Nat.add_comm, Lib.splitK, idx_eq, ← ih]
      simp
    · rw [if_neg hx, splitAcc_pre, ← ih, Lib.count_cons_ne x b r hx]
      have hge := Lib.index_ge r [b]
      cases hk : Lib.count r [b] with
      | zero => simp [Lib.splitK, mapHead]
      | succ k =>
        have hi : Lib.index r [b] ≠ -1 := fun e => by rw [Lib.count_miss e] at hk; cases hk
        rw [Lib.splitK, Lib.splitK, idx_ne r hx, if_neg hi]
        have e : (Lib.index r [b] + 1).toNat = (Lib.index r [b]).toNat + 1 := by omega
        have e1 : ¬ Lib.index r [b] + 1 = -1 := by omega
        simp only [beq_iff_eq, e1, hi, if_false, e, mapHead]
        simp [Nat.add_right_comm]
def valAcc (acc : Nat) (l : List UInt8) : Nat := l.foldl (fun a b => 10 * a + (b.toNat - 48)) acc
theorem valAcc_ge : ∀ (l : List UInt8) (acc : Nat), acc ≤ valAcc acc l
  | [], _ => Nat.le_refl _
  | x :: r, acc => by
    have := valAcc_ge r (10 * acc + (x.toNat - 48))
    show acc ≤ valAcc (10 * acc + (x.toNat - 48)) r
    omega
theorem parseM_digs {M : Nat} (hM : M ≤ 18446744073709551615) : ∀ (l : List UInt8) (acc : Nat), digs l → valAcc acc l ≤ M → Lib.parseUintM M acc l = .ok (valAcc acc l)
  | [], _, _, _ => rfl
  | x :: r, acc, hd, hv => by
    have hx := hd x (List.mem_cons_self ..)
    have hv' : valAcc (10 * acc + (x.toNat - 48)) r ≤ M := hv
    have hge := valAcc_ge r (10 * acc + (x.toNat - 48))
    rw [Lib.parseUintM, if_pos hx, if_neg (by omega), if_neg (by omega), Nat.mul_comm acc 10]
    exact parseM_digs hM r _ (fun b hb => hd b (List.mem_cons_of_mem _ hb)) hv'
theorem parseU_dec (u : Nat) (hu : u ≤ 18446744073709551615) : Lib.parseUintB 64 (Lib.decDigits u) = .ok u := by
  obtain ⟨d1, d2⟩ := decD u
  have hp := decD_pos u
  have hne : Lib.decDigits u ≠ [] := fun e => by rw [e] at hp; simp at hp
  unfold Lib.parseUintB
  rw [if_neg hne]
  have := parseM_digs (M := 2 ^ 64 - 1) (by decide) (Lib.decDigits u) 0 d1 (by show valD _ ≤ _; rw [d2]; exact hu)
  rw [this]
  exact congrArg _ d2
theorem parse_itoa {n : Int} (h1 : -9223372036854775808 ≤ n) (h2 : n ≤ 9223372036854775807) : Lib.parseIntB 64 (Lib.itoa n) = .ok n := by
  by_cases hn : n < 0
  · rw [Lib.itoa, if_pos hn, Lib.parseIntB_minus, parseU_dec _ (by omega)]
    have e : (2 : Nat) ^ (64 - 1) = 9223372036854775808 := by decide
    rw [e]
    simp only [Lib.signedC]
    rw [if_neg (by omega)]
    congr 1; omega
  · rw [Lib.itoa, if_neg hn]
    obtain ⟨d1, d2⟩ := decD n.toNat
    have hp := decD_pos n.toNat
    cases hd : Lib.decDigits n.toNat with
    | nil => rw [hd] at hp; simp at hp
    | cons c r =>
      rw [hd] at d1
      have hc := d1 c (List.mem_cons_self ..)
      rw [Lib.parseIntB_plain 64 c r (by omega) (by omega), ← hd, parseU_dec _ (by omega)]
      have e : (2 : Nat) ^ (64 - 1) = 9223372036854775808 := by decide
      rw [e]
      simp only [Lib.signlessC]
      rw [if_neg (by omega)]
      congr 1; omega
/-- What 'ParseInt' says of a text, and what 'numOf'. -/
theorem numOf_parse {s : List UInt8} : numOf s = match Lib.parseIntB 64 s with | .ok v => if Lib.itoa v = s then some v else none | _ => none := by
  cases h : numOf s with
  | some n =>
    obtain ⟨h1, h2, h3⟩ := numOf_iff.1 h
    have := parse_itoa h1 h2
    rw [h3] at this
    rw [this]
    simp [h3]
  | none =>
    cases hp : Lib.parseIntB 64 s with
    | ok v =>
      have hb := Lib.parseIntB_bounds hp
      have e : (2 : Nat) ^ (64 - 1) = 9223372036854775808 := by decide
      rw [e] at hb
      simp only
      split
      · rename_i hi
        have := numOf_iff.2 (show isNum s v from ⟨by omega, by omega, hi⟩)
        rw [h] at this; cases this
      · rfl
    | _ => rfl
end Go.Ab
