import Derived.Test.YtjnkfcbbgfgmhaaDoorAdN
set_option linter.unusedSimpArgs false
set_option linter.unusedVariables false
namespace Go.Ab
open Go Go.Ab Go.Proofs
set_option maxRecDepth 100000

def NumQ (s : List UInt8) (H : Hp) (rs : List D) (H' : Hp) : Prop := ∃ m q, rs = [D.int m, D.bool q] ∧ H' = H ∧ (q = true → isNum s m) ∧ (q = false → ∀ n, ¬ isNum s n)
theorem NumQ_no {s : List UInt8} {H : Hp} (m : Int) (h : ∀ n, ¬ isNum s n) : NumQ s H [D.int m, D.bool false] H := ⟨m, false, rfl, rfl, fun e => (by cases e), fun _ => h⟩
theorem isNum_len {s : List UInt8} {n : Int} (h : isNum s n) : 1 ≤ s.length ∧ s.length ≤ 20 := by
  rcases isNum_cases h with ⟨_, _, _, h1, h2, _⟩ | ⟨_, r, rfl, _, _, h1, h2, _⟩
  · omega
  · simp only [List.length_cons]; omega
theorem isNum_dg {s : List UInt8} {n : Int} {bel : Bool} (hbel : decide (((s.getD 0 0).toNat : Int) = 45) = bel) (h : isNum s n) :
    digs (s.drop bel.toNat) ∧ n = (if bel = true then -(valD (s.drop bel.toNat) : Int) else (valD (s.drop bel.toNat) : Int)) ∧ valD (s.drop bel.toNat) ≤ 9223372036854775808 ∧ (bel = false → valD (s.drop bel.toNat) ≤ 9223372036854775807) := by
  rcases isNum_cases h with ⟨h0, h1, h2, h3, h4, h5⟩ | ⟨h0, r, rfl, h1, h2, h3, h4, h5⟩
  · have : bel = false := by
      subst hbel
      apply decide_eq_false
      cases s with
      | nil => simp at h3
      | cons x r =>
        have := h1 x (List.mem_cons_self ..)
        simp only [List.getD_cons_zero]; omega
    subst this
    simp only [Bool.toNat_false, List.drop_zero, Bool.false_eq_true, if_false]
    exact ⟨h1, by omega, by omega, fun _ => by omega⟩
  · have : bel = true := by subst hbel; rfl
    subst this
    simp only [Bool.toNat_true, List.drop_succ_cons, List.drop_zero, if_true]
    exact ⟨h1, by omega, by omega, fun e => by cases e⟩
end Go.Ab
