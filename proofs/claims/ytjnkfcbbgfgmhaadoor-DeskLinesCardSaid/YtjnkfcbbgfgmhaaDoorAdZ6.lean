import Derived.Test.YtjnkfcbbgfgmhaaDoorAdZ5
set_option linter.unusedSimpArgs false
set_option linter.unusedVariables false
namespace Go.Ab
open Go Go.Ab Go.Proofs
set_option maxRecDepth 100000

theorem isNum_uniq {s : List UInt8} {n m : Int} (hn : isNum s n) (hm : isNum s m) : n = m := by
  have h1 := (isNum_dg rfl hn).2.1
  have h2 := (isNum_dg rfl hm).2.1
  rw [h1, h2]
theorem isNum_nil {n : Int} : ¬ isNum [] n := fun h => by have := isNum_len h; simp at this
/-- A text that tells a stack. -/
def isStk (p : List UInt8) (x : Stk) : Prop := (cutAt 120 p).2.2 = true ∧ isNum (cutAt 120 p).1 x.t ∧ isNum (cutAt 120 p).2.1 x.q
theorem isStk_uniq {p : List UInt8} {x y : Stk} (hx : isStk p x) (hy : isStk p y) : x = y := by
  have h1 := isNum_uniq hx.2.1 hy.2.1
  have h2 := isNum_uniq hx.2.2 hy.2.2
  cases x; cases y; simp_all
def allStk : List (List UInt8) → List Stk → Prop
  | [], [] => True
  | p :: ps, x :: xs => isStk p x ∧ allStk ps xs
  | _, _ => False
theorem allStk_uniq : ∀ {ps : List (List UInt8)} {xs ys : List Stk}, allStk ps xs → allStk ps ys → xs = ys
  | [], [], [], _, _ => rfl
  | [], [], _ :: _, _, h => h.elim
  | [], _ :: _, _, h, _ => h.elim
  | _ :: _, [], _, h, _ => h.elim
  | _ :: _, _ :: _, [], _, h => h.elim
  | _ :: _, _ :: _, _ :: _, h, k => by rw [isStk_uniq h.1 k.1, allStk_uniq h.2 k.2]
theorem allStk_len : ∀ {ps : List (List UInt8)} {xs : List Stk}, allStk ps xs → xs.length = ps.length
  | [], [], _ => rfl
  | [], _ :: _, h => h.elim
  | _ :: _, [], h => h.elim
  | _ :: _, _ :: _, h => by simp [allStk_len h.2]
theorem allStk_snoc : ∀ {ps : List (List UInt8)} {xs : List Stk} {p : List UInt8} {x : Stk}, allStk ps xs → isStk p x → allStk (ps ++ [p]) (xs ++ [x])
  | [], [], _, _, _, h => ⟨h, trivial⟩
  | [], _ :: _, _, _, h, _ => h.elim
  | _ :: _, [], _, _, h, _ => h.elim
  | _ :: _, _ :: _, _, _, h, k => ⟨h.1, allStk_snoc h.2 k⟩
theorem allStk_get : ∀ {ps : List (List UInt8)} {xs : List Stk} {k : Nat} (_ : allStk ps xs) (hk : k < ps.length), ∃ x, isStk ps[k] x
  | [], _, _, _, hk => by simp at hk
  | _ :: _, [], _, h, _ => h.elim
  | _ :: _, x :: _, 0, h, _ => ⟨x, h.1⟩
  | _ :: _, _ :: _, k + 1, h, hk => by
    obtain ⟨x, hx⟩ := allStk_get (k := k) h.2 (by simpa using hk)
    exact ⟨x, by simpa using hx⟩
/-- Stacks of a text, or that there are none. -/
def isStks (s : List UInt8) (l : List Stk) : Prop := l.length ≤ 8 ∧ allStk (splitAcc 44 [] s) l
def StksQ (s : List UInt8) (H : Hp) (rs : List D) (H' : Hp) : Prop := H' = H ∧ ((∃ l, rs = [encS l, D.bool true] ∧ isStks s l) ∨ (rs = [.sl 0 true [], D.bool false] ∧ ∀ l, ¬ isStks s l))

end Go.Ab
