import Derived.Test.YtjnkfcbbgfgmhaaDoorAdZ0
set_option linter.unusedSimpArgs false
set_option linter.unusedVariables false
namespace Go.Ab
open Go Go.Ab Go.Proofs
set_option maxRecDepth 100000

/-- What stands ahead of the first byte b, and what behind it. -/
def cutAt (b : UInt8) : List UInt8 → List UInt8 × List UInt8 × Bool
  | [] => ([], [], false)
  | x :: r => if x = b then ([], r, true) else (x :: (cutAt b r).1, (cutAt b r).2.1, (cutAt b r).2.2)
theorem cutAt_none {b : UInt8} : ∀ {l : List UInt8}, b ∉ l → cutAt b l = (l, [], false)
  | [], _ => rfl
  | x :: r, h => by
    simp only [List.mem_cons, not_or] at h
    rw [cutAt, if_neg (Ne.symm h.1), cutAt_none h.2]
theorem cutAt_some {b : UInt8} : ∀ {l : List UInt8} {k : Nat}, b ∉ l.take k → (h : k < l.length) → l[k] = b → cutAt b l = (l.take k, l.drop (k + 1), true)
  | x :: r, 0, _, _, he => by
    simp only [List.getElem_cons_zero] at he
    rw [cutAt, if_pos he]; rfl
  | x :: r, k + 1, hn, h, he => by
    simp only [List.take_succ_cons, List.mem_cons, not_or] at hn
    rw [cutAt, if_neg (Ne.symm hn.1), cutAt_some hn.2 (by simpa using h) (by simpa using he)]; rfl
theorem byteEq (a b : UInt8) : ((a.toNat : Int) = (b.toNat : Int)) = (a = b) := by
  apply propext; constructor
  · intro h; exact UInt8.toNat_inj.1 (by omega)
  · intro h; rw [h]
theorem getD_lt {l : List UInt8} {k : Nat} (h : k < l.length) : l.getD k 0 = l[k] := by
  rw [List.getD_eq_getElem?_getD, List.getElem?_eq_getElem h]; rfl

/-- The parts of a text between bytes b. -/
def splitAcc (b : UInt8) (part : List UInt8) : List UInt8 → List (List UInt8)
  | [] => [part]
  | x :: r => if x = b then part :: splitAcc b [] r else splitAcc b (part ++ [x]) r

theorem splitAcc_ne (b : UInt8) : ∀ (l p : List UInt8), splitAcc b p l ≠ []
  | [], p => by simp [splitAcc]
  | x :: r, p => by
    rw [splitAcc]; split
    · simp
    · exact splitAcc_ne b r _
theorem splitAcc_len (b : UInt8) : ∀ (l p : List UInt8), (splitAcc b p l).length ≤ l.length + 1
  | [], p => by simp [splitAcc]
  | x :: r, p => by
    rw [splitAcc]; split
    · have := splitAcc_len b r []; simp only [List.length_cons]; omega
    · have := splitAcc_len b r (p ++ [x]); simp only [List.length_cons]; omega
def ne0 : List UInt8 → Bool
  | [] => false
  | _ :: _ => true
theorem ne0_of {l : List UInt8} (h : l ≠ []) : ne0 l = true := by cases l; exact absurd rfl h; rfl
/-- The words of a text: what stands between blanks. -/
def wordsOf (l : List UInt8) : List (List UInt8) := (splitAcc 32 [] l).filter ne0

end Go.Ab
