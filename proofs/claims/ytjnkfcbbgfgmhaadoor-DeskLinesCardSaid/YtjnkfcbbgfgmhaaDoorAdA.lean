import Derived.Test.YtjnkfcbbgfgmhaaDoorAdE1
set_option linter.unusedSimpArgs false
set_option linter.unusedVariables false
namespace Go.Ab
open Go Go.Ab Go.Proofs
set_option maxRecDepth 100000
theorem itoa_d {n : Nat} (h : n ≤ 9) : Lib.itoa n = [UInt8.ofNat (48 + n)] := by
  have := itoa_small (n := (n : Int)) (by omega) (by omega)
  simpa using this
theorem itoa1 : Lib.itoa 1 = [49] := itoa_d (n := 1) (by omega)
theorem itoa2 : Lib.itoa 2 = [50] := itoa_d (n := 2) (by omega)
theorem itoa3 : Lib.itoa 3 = [51] := itoa_d (n := 3) (by omega)
theorem itoa5 : Lib.itoa 5 = [53] := itoa_d (n := 5) (by omega)
theorem itoam7 : Lib.itoa (-7) = [45, 55] := by
  rw [itoa_neg1 (by omega) (by omega)]
  have := itoa_d (n := 7) (by omega)
  rw [show (0 - (-7) : Int) = ((7 : Nat) : Int) from rfl, this]; rfl
theorem num_of {s : List UInt8} {n : Int} (h : Lib.itoa n = s) (h1 : -9223372036854775808 ≤ n) (h2 : n ≤ 9223372036854775807) : numOf s = some n := numOf_iff.2 ⟨h1, h2, h⟩
theorem n1 : numOf [49] = some 1 := num_of itoa1 (by omega) (by omega)
theorem n2 : numOf [50] = some 2 := num_of itoa2 (by omega) (by omega)
theorem n3 : numOf [51] = some 3 := num_of itoa3 (by omega) (by omega)
theorem n5 : numOf [53] = some 5 := num_of itoa5 (by omega) (by omega)
theorem nm7 : numOf [45, 55] = some (-7) := num_of itoam7 (by omega) (by omega)
def minText : List UInt8 := [45, 57, 50, 50, 51, 51, 55, 50, 48, 51, 54, 56, 53, 52, 55, 55, 53, 56, 48, 56]
theorem nmin : numOf minText = some (-9223372036854775808) := by
  refine num_of ?_ (by omega) (by omega)
  rw [Lib.itoa, if_pos (by omega)]
  show 45 :: Lib.decDigits 9223372036854775808 = minText
  simp [Lib.decDigits, minText]
theorem n01 : numOf [48, 49] = none := by
  refine numOf_none fun n h => ?_
  have := isNum_cand h
  have e : candN [48, 49] = 1 := rfl
  rw [e] at this
  subst this
  have := h.2.2
  rw [itoa1] at this
  revert this; decide
def text1 : List UInt8 := [32, 32, 105, 115, 115, 117, 101, 32, 119, 97, 110, 116, 115, 61, 50, 120, 49, 32, 119, 104, 111, 61, 49, 32, 103, 105, 118, 101, 115, 61, 49, 120, 53, 44, 51, 120, 50, 32, 110, 61, 45, 55, 32, 97, 115, 61, 50, 32]
def text2 : List UInt8 := [116, 105, 99, 107, 32, 110, 61, 49, 32, 110, 61, 49]
def text3 : List UInt8 := [105, 115, 115, 117, 101, 32, 119, 104, 111, 61, 49, 32, 97, 115, 61, 50, 32, 110, 61, 45, 55, 32, 103, 105, 118, 101, 115, 61, 49, 120, 53, 44, 51, 120, 50, 32, 119, 97, 110, 116, 115, 61, 50, 120, 49]
def cmd1 : Cmd := ⟨14, fun i => if i = 1 then 2 else if i = 9 then -7 else if i = 0 then 1 else 0, [⟨1, 5⟩, ⟨3, 2⟩], [⟨2, 1⟩]⟩
theorem words1 : wordsOf text1 = [[105, 115, 115, 117, 101], [119, 97, 110, 116, 115, 61, 50, 120, 49], [119, 104, 111, 61, 49], [103, 105, 118, 101, 115, 61, 49, 120, 53, 44, 51, 120, 50], [110, 61, 45, 55], [97, 115, 61, 50]] := by decide
theorem words2 : wordsOf text2 = [[116, 105, 99, 107], [110, 61, 49], [110, 61, 49]] := by decide
theorem stks1 : stksOf [50, 120, 49] = some [⟨2, 1⟩] := by
  unfold stksOf
  rw [show splitAcc 44 [] [50, 120, 49] = [[50, 120, 49]] by decide]
  refine stksOfP_some ?_ (by decide)
  simp only [stkAll, stkOf_nums]
  rw [show (cutAt 120 [50, 120, 49]) = ([50], [49], true) by decide]
  simp only [n1, n2]
theorem stks2 : stksOf [49, 120, 53, 44, 51, 120, 50] = some [⟨1, 5⟩, ⟨3, 2⟩] := by
  unfold stksOf
  rw [show splitAcc 44 [] [49, 120, 53, 44, 51, 120, 50] = [[49, 120, 53], [51, 120, 50]] by decide]
  refine stksOfP_some ?_ (by decide)
  simp only [stkAll, stkOf_nums]
  rw [show (cutAt 120 [49, 120, 53]) = ([49], [53], true) by decide, show (cutAt 120 [51, 120, 50]) = ([51], [50], true) by decide]
  simp only [n1, n2, n3, n5]
theorem step_list {c : Cmd} {seen : List (List UInt8)} {w name text : List UInt8} {l : List Stk} (hk : c.kind = 14) (hcut : cutAt 61 w = (name, text, true)) (hs : name ∉ seen) (hn : name = txGives ∨ name = txWants) (hl : stksOf text = some l) :
    stepOf c seen w = some (if name = txGives then { c with gives := l } else { c with wants := l }) := by
  rw [stepOf_ok (by rw [hcut]) (by rw [hcut]; exact hs), hcut, fieldOf_list hk hn, hl]
theorem step_num {c : Cmd} {seen : List (List UInt8)} {w name text : List UInt8} {n : Int} {p : Nat} (hcut : cutAt 61 w = (name, text, true)) (hs : name ∉ seen) (hn : ¬ (c.kind = 14 ∧ (name = txGives ∨ name = txWants))) (hl : numOf text = some n) (hf : name ∈ fieldsOf c.kind) (hp : posOf name nameList = some p) :
    stepOf c seen w = some { c with num := fun i => if i = p then n else c.num i } := by
  rw [stepOf_ok (by rw [hcut]) (by rw [hcut]; exact hs), hcut, fieldOf_num hn, hl]
  simp only
  rw [if_pos hf, Cmd.setN, hp]
theorem parse1 : parseOf text1 = some cmd1 := by
  unfold parseOf
  rw [words1, parseW_ok (by decide) (by decide)]
  rw [show kindNo (posOf [105, 115, 115, 117, 101] kindList) = 14 by decide]
  rw [wordsIn_some (step_list (name := txWants) (text := [50, 120, 49]) rfl (by decide) (by decide) (.inr rfl) stks1)]
  rw [wordsIn_some (step_num (name := [119, 104, 111]) (text := [49]) (p := 0) (by decide) (by decide) (by decide) n1 (by decide) (by decide))]
  rw [wordsIn_some (step_list (name := txGives) (text := [49, 120, 53, 44, 51, 120, 50]) rfl (by decide) (by decide) (.inl rfl) stks2)]
  rw [wordsIn_some (step_num (name := [110]) (text := [45, 55]) (p := 9) (by decide) (by decide) (by decide) nm7 (by decide) (by decide))]
  rw [wordsIn_some (step_num (name := [97, 115]) (text := [50]) (p := 1) (by decide) (by decide) (by decide) n2 (by decide) (by decide))]
  rfl
theorem parse2 : parseOf text2 = none := by
  unfold parseOf
  rw [words2, parseW_ok (by decide) (by decide)]
  rw [show kindNo (posOf [116, 105, 99, 107] kindList) = 20 by decide]
  rw [wordsIn_some (step_num (name := [110]) (text := [49]) (p := 9) (by decide) (by decide) (by decide) n1 (by decide) (by decide))]
  exact wordsIn_none (stepOf_bad (.inr (by decide)))
theorem check1 : checkOk cmd1 := ⟨by decide, by decide, by
  intro i hi
  have : i = 0 ∨ i = 1 ∨ i = 2 ∨ i = 3 ∨ i = 4 ∨ i = 5 ∨ i = 6 ∨ i = 7 ∨ i = 8 ∨ i = 9 ∨ i = 10 ∨ i = 11 ∨ i = 12 ∨ i = 13 ∨ i = 14 ∨ i = 15 ∨ i = 16 ∨ i = 17 ∨ i = 18 := by omega
  rcases this with rfl | rfl | rfl | rfl | rfl | rfl | rfl | rfl | rfl | rfl | rfl | rfl | rfl | rfl | rfl | rfl | rfl | rfl | rfl <;> decide⟩
theorem inR1 : cmd1.inR := by
  refine ⟨fun i hi => ?_, ?_, ?_⟩
  · simp only [cmd1, inI]
    split
    · omega
    · split
      · omega
      · split <;> omega
  · intro s hs
    simp only [cmd1, List.mem_cons, List.not_mem_nil, or_false] at hs
    rcases hs with rfl | rfl <;> simp [Stk.inR, inI]
  · intro s hs
    simp only [cmd1, List.mem_cons, List.not_mem_nil, or_false] at hs
    rcases hs with rfl <;> simp [Stk.inR, inI]
theorem line1 : lineText cmd1 = text3 := by
  have hf : fieldsOf cmd1.kind = [[119, 104, 111], [97, 115], [100, 105, 118], [116, 121, 112, 101], [116, 111], [112, 108, 97, 99, 101], [100, 101, 115, 116], [110], [112, 108, 101, 100, 103, 101], [108, 97, 115, 116, 115], [100, 97, 121, 115]] := by decide
  unfold lineText lineNums
  rw [hf]
  have g : ∀ s p, posOf s nameList = some p → getN cmd1 s = cmd1.num p := fun s p h => by unfold getN; rw [h]
  simp only [List.length_cons, List.length_nil, List.take_succ_cons, List.take_nil, List.foldl_cons, List.foldl_nil, lineStep]
  rw [g [119, 104, 111] 0 (by decide), g [97, 115] 1 (by decide), g [100, 105, 118] 2 (by decide), g [116, 121, 112, 101] 8 (by decide), g [116, 111] 4 (by decide), g [112, 108, 97, 99, 101] 6 (by decide), g [100, 101, 115, 116] 7 (by decide), g [110] 9 (by decide), g [112, 108, 101, 100, 103, 101] 10 (by decide), g [108, 97, 115, 116, 115] 11 (by decide), g [100, 97, 121, 115] 12 (by decide)]
  rw [show nameOf cmd1.kind = [105, 115, 115, 117, 101] by decide]
  simp [cmd1, withList, listText, stkText, Lib.join, List.intercalate, List.intersperse, itoa1, itoa2, itoa3, itoa5, itoam7, text3]
end Go.Ab
