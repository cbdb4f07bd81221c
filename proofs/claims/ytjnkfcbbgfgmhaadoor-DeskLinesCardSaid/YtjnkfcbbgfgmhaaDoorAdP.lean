import Derived.Test.YtjnkfcbbgfgmhaaDoorAdZ6
set_option linter.unusedSimpArgs false
set_option linter.unusedVariables false
namespace Go.Ab
open Go Go.Ab Go.Proofs

/-- The number that a text would tell. -/
def candN (s : List UInt8) : Int := if s.headD 0 = 45 then -(valD (s.drop 1) : Int) else valD s
def numOf (s : List UInt8) : Option Int :=
  if -9223372036854775808 ≤ candN s ∧ candN s ≤ 9223372036854775807 ∧ Lib.itoa (candN s) = s then some (candN s) else none
theorem isNum_cand {s : List UInt8} {n : Int} (h : isNum s n) : candN s = n := by
  rcases isNum_cases h with ⟨h0, h1, h2, h3, _⟩ | ⟨h0, r, rfl, h1, h2, h3, _⟩
  · have : s.headD 0 ≠ 45 := by
      cases s with
      | nil => simp at h3
      | cons x r =>
        intro e
        have := h1 x (List.mem_cons_self ..)
        simp only [List.headD_cons] at e
        subst e
        revert this; decide
    rw [candN, if_neg this, h2]; omega
  · rw [candN, List.headD_cons, if_pos rfl]
    simp only [List.drop_succ_cons, List.drop_zero]
    rw [h2]; omega
theorem numOf_iff {s : List UInt8} {n : Int} : numOf s = some n ↔ isNum s n := by
  unfold numOf
  constructor
  · intro h
    split at h
    · rename_i hc; cases h; exact hc
    · cases h
  · intro h
    have := isNum_cand h
    subst this
    exact if_pos h
theorem numOf_none {s : List UInt8} (h : ∀ n, ¬ isNum s n) : numOf s = none := by
  cases hn : numOf s with
  | none => rfl
  | some n => exact absurd (numOf_iff.1 hn) (h n)
theorem numOf_of {s : List UInt8} {m : Int} {q : Bool} (h1 : q = true → isNum s m) (h2 : q = false → ∀ n, ¬ isNum s n) : numOf s = if q = true then some m else none := by
  cases q with
  | true => rw [if_pos rfl]; exact numOf_iff.2 (h1 rfl)
  | false => rw [if_neg (by simp)]; exact numOf_none (h2 rfl)
def stkOf (p : List UInt8) : Option Stk :=
  if (cutAt 120 p).2.2 = true then match numOf (cutAt 120 p).1, numOf (cutAt 120 p).2.1 with | some n, some m => some ⟨n, m⟩ | _, _ => none else none
theorem stkOf_iff {p : List UInt8} {x : Stk} : stkOf p = some x ↔ isStk p x := by
  unfold stkOf isStk
  constructor
  · intro h
    split at h
    · rename_i hc
      split at h
      · rename_i n m h1 h2; cases h; exact ⟨hc, numOf_iff.1 h1, numOf_iff.1 h2⟩
      · cases h
    · cases h
  · rintro ⟨h1, h2, h3⟩
    rw [if_pos h1, numOf_iff.2 h2, numOf_iff.2 h3]
def stkAll : List (List UInt8) → Option (List Stk)
  | [] => some []
  | p :: ps => match stkOf p, stkAll ps with | some x, some xs => some (x :: xs) | _, _ => none
theorem stkAll_iff : ∀ {ps : List (List UInt8)} {xs : List Stk}, stkAll ps = some xs ↔ allStk ps xs
  | [], [] => by simp [stkAll, allStk]
  | [], _ :: _ => by simp [stkAll, allStk]
  | _ :: _, [] => by
    constructor
    · intro h
      rw [stkAll] at h
      split at h <;> cases h
    · intro h; exact h.elim
  | p :: ps, x :: xs => by
    rw [stkAll, allStk, ← stkOf_iff, ← stkAll_iff (ps := ps) (xs := xs)]
    cases h1 : stkOf p with
    | none => simp
    | some y => cases h2 : stkAll ps with
      | none => simp
      | some ys => simp
def stksOfP (ps : List (List UInt8)) : Option (List Stk) :=
  match stkAll ps with | some l => if l.length ≤ 8 then some l else none | none => none
def stksOf (s : List UInt8) : Option (List Stk) := stksOfP (splitAcc 44 [] s)
theorem stksOfP_none {ps : List (List UInt8)} (h : stkAll ps = none ∨ 8 < ps.length) : stksOfP ps = none := by
  unfold stksOfP
  cases hn : stkAll ps with
  | none => rfl
  | some l =>
    have := allStk_len (stkAll_iff.1 hn)
    simp only
    rcases h with h | h
    · rw [hn] at h; cases h
    · rw [if_neg (by omega)]
theorem stksOfP_some {ps : List (List UInt8)} {l : List Stk} (h : stkAll ps = some l) (h8 : ps.length ≤ 8) : stksOfP ps = some l := by
  unfold stksOfP
  have := allStk_len (stkAll_iff.1 h)
  rw [h]
  exact if_pos (by omega)
theorem stksOf_iff {s : List UInt8} {l : List Stk} : stksOf s = some l ↔ isStks s l := by
  unfold stksOf stksOfP isStks
  cases h : stkAll (splitAcc 44 [] s) with
  | none =>
    constructor
    · intro h; cases h
    · rintro ⟨_, h2⟩; rw [stkAll_iff.2 h2] at h; cases h
  | some l' =>
    have h' := stkAll_iff.1 h
    simp only
    constructor
    · intro hl
      split at hl
      · rename_i hc; cases hl; exact ⟨hc, h'⟩
      · cases hl
    · rintro ⟨h1, h2⟩
      have := allStk_uniq h' h2
      subst this
      rw [if_pos h1]
theorem stksOf_none {s : List UInt8} (h : ∀ l, ¬ isStks s l) : stksOf s = none := by
  cases hn : stksOf s with
  | none => rfl
  | some n => exact absurd (stksOf_iff.1 hn) (h n)

def txGives : List UInt8 := [103, 105, 118, 101, 115]
def txWants : List UInt8 := [119, 97, 110, 116, 115]
/-- A command with one field more. -/
def fieldOf (c : Cmd) (name text : List UInt8) : Option Cmd :=
  if c.kind = 14 ∧ (name = txGives ∨ name = txWants) then
    match stksOf text with
    | some l => some (if name = txGives then { c with gives := l } else { c with wants := l })
    | none => none
  else match numOf text with
    | some n => if name ∈ fieldsOf c.kind then some (c.setN name n).1 else none
    | none => none
def stepOf (c : Cmd) (seen : List (List UInt8)) (word : List UInt8) : Option Cmd :=
  if (cutAt 61 word).2.2 = true ∧ (cutAt 61 word).1 ∉ seen then fieldOf c (cutAt 61 word).1 (cutAt 61 word).2.1 else none
def wordsIn : Cmd → List (List UInt8) → List (List UInt8) → Option Cmd
  | c, _, [] => some c
  | c, seen, w :: r => match stepOf c seen w with | some c' => wordsIn c' (seen ++ [(cutAt 61 w).1]) r | none => none
theorem wordsIn_some {c c' : Cmd} {seen : List (List UInt8)} {w : List UInt8} {r : List (List UInt8)} (h : stepOf c seen w = some c') : wordsIn c seen (w :: r) = wordsIn c' (seen ++ [(cutAt 61 w).1]) r := by rw [wordsIn, h]
theorem wordsIn_none {c : Cmd} {seen : List (List UInt8)} {w : List UInt8} {r : List (List UInt8)} (h : stepOf c seen w = none) : wordsIn c seen (w :: r) = none := by rw [wordsIn, h]
theorem stepOf_bad {c : Cmd} {seen : List (List UInt8)} {w : List UInt8} (h : (cutAt 61 w).2.2 = false ∨ (cutAt 61 w).1 ∈ seen) : stepOf c seen w = none := by
  unfold stepOf
  rw [if_neg]
  rintro ⟨h1, h2⟩
  rcases h with h | h
  · rw [h1] at h; cases h
  · exact h2 h
theorem stepOf_ok {c : Cmd} {seen : List (List UInt8)} {w : List UInt8} (h1 : (cutAt 61 w).2.2 = true) (h2 : (cutAt 61 w).1 ∉ seen) : stepOf c seen w = fieldOf c (cutAt 61 w).1 (cutAt 61 w).2.1 := by
  unfold stepOf
  rw [if_pos ⟨h1, h2⟩]
theorem fieldOf_list {c : Cmd} {name text : List UInt8} (h : c.kind = 14) (hn : name = txGives ∨ name = txWants) : fieldOf c name text =
    match stksOf text with | some l => some (if name = txGives then { c with gives := l } else { c with wants := l }) | none => none := by
  unfold fieldOf
  rw [if_pos ⟨h, hn⟩]
theorem fieldOf_num {c : Cmd} {name text : List UInt8} (h : ¬ (c.kind = 14 ∧ (name = txGives ∨ name = txWants))) : fieldOf c name text =
    match numOf text with | some n => if name ∈ fieldsOf c.kind then some (c.setN name n).1 else none | none => none := by
  unfold fieldOf
  rw [if_neg h]
def startOf (k : Int) : Cmd := ⟨k, fun _ => 0, [], []⟩
/-- The command of words, of a line of n bytes. -/
def parseW (n : Nat) (ws : List (List UInt8)) : Option Cmd :=
  if n > 1024 then none else
  match ws with
  | [] => none
  | w :: r => if kindNo (posOf w kindList) = 0 then none else wordsIn (startOf (kindNo (posOf w kindList))) [] r
/-- The command of a line. -/
def parseOf (line : List UInt8) : Option Cmd := parseW line.length (wordsOf line)
theorem parseW_bad {n : Nat} {ws : List (List UInt8)} (h : 1024 < n ∨ ws = []) : parseW n ws = none := by
  unfold parseW
  split
  · rfl
  · rcases h with h | rfl
    · omega
    · rfl
theorem parseW_kind {n : Nat} {w : List UInt8} {r : List (List UInt8)} (h : kindNo (posOf w kindList) = 0) : parseW n (w :: r) = none := by
  unfold parseW
  split
  · rfl
  · simp [h]
theorem parseW_ok {n : Nat} {w : List UInt8} {r : List (List UInt8)} (hn : ¬ 1024 < n) (h : kindNo (posOf w kindList) ≠ 0) : parseW n (w :: r) = wordsIn (startOf (kindNo (posOf w kindList))) [] r := by
  unfold parseW
  rw [if_neg (by omega)]
  simp [h]
end Go.Ab
