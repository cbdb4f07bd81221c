import Derived.Test.YtjnkfcbbgfgmhaaDoorAdA
set_option linter.unusedSimpArgs false
set_option linter.unusedVariables false
namespace Go.Ab
open Go Go.Ab Go.Proofs
set_option maxRecDepth 100000
/-- A number's text: digits, and a sign perhaps. -/
theorem itoa_bytes {n : Int} : ∀ b ∈ Lib.itoa n, b = 45 ∨ (48 ≤ b.toNat ∧ b.toNat ≤ 57) := by
  intro b hb
  unfold Lib.itoa at hb
  split at hb
  · rcases List.mem_cons.1 hb with rfl | hb
    · exact .inl rfl
    · exact .inr ((decD _).1 b hb)
  · exact .inr ((decD _).1 b hb)
theorem itoa_no {n : Int} {c : UInt8} (h1 : c ≠ 45) (h2 : c.toNat < 48 ∨ 57 < c.toNat) : c ∉ Lib.itoa n := fun h => by
  rcases itoa_bytes c h with e | e
  · exact h1 e
  · omega
theorem itoa_20 {n : Int} (h : inI n) : 1 ≤ (Lib.itoa n).length ∧ (Lib.itoa n).length ≤ 20 := isNum_len (s := Lib.itoa n) (n := n) ⟨h.1, h.2, rfl⟩
theorem numOf_itoa {n : Int} (h : inI n) : numOf (Lib.itoa n) = some n := num_of rfl h.1 h.2
theorem cutAt_app {b : UInt8} : ∀ {l r : List UInt8}, b ∉ l → cutAt b (l ++ b :: r) = (l, r, true)
  | [], r, _ => by simp [cutAt]
  | x :: l, r, h => by
    simp only [List.mem_cons, not_or] at h
    rw [List.cons_append, cutAt, if_neg (Ne.symm h.1), cutAt_app h.2]
theorem splitAcc_app {b : UInt8} : ∀ (s p w : List UInt8), splitAcc b p (s ++ b :: w) = splitAcc b p s ++ splitAcc b [] w
  | [], p, w => by simp [splitAcc]
  | x :: s, p, w => by
    rw [List.cons_append, splitAcc, splitAcc]
    split
    · rw [splitAcc_app s [] w]; rfl
    · rw [splitAcc_app s _ w]
theorem splitAcc_none {b : UInt8} : ∀ (w p : List UInt8), b ∉ w → splitAcc b p w = [p ++ w]
  | [], p, _ => by simp [splitAcc]
  | x :: w, p, h => by
    simp only [List.mem_cons, not_or] at h
    rw [splitAcc, if_neg (Ne.symm h.1), splitAcc_none w _ h.2]; simp
theorem wordsOf_snoc {s w : List UInt8} (hw : w ≠ []) (h : 32 ∉ w) : wordsOf (s ++ 32 :: w) = wordsOf s ++ [w] := by
  unfold wordsOf
  rw [splitAcc_app, List.filter_append, splitAcc_none w [] h]
  simp [List.filter_cons, ne0_of hw]
theorem wordsOf_one {w : List UInt8} (hw : w ≠ []) (h : 32 ∉ w) : wordsOf w = [w] := by
  unfold wordsOf
  rw [splitAcc_none w [] h]
  simp [List.filter_cons, ne0_of hw]
/-- A field's word. -/
def numWord (c : Cmd) (name : List UInt8) : List UInt8 := name ++ 61 :: Lib.itoa (getN c name)
def numWords (c : Cmd) (fs : List (List UInt8)) : List (List UInt8) := (fs.filter fun name => decide (getN c name ≠ 0)).map (numWord c)
theorem fields_bytes {k : Int} : ∀ x ∈ fieldsOf k, 32 ∉ x ∧ 61 ∉ x ∧ x ∈ nameList := by
  unfold fieldsOf
  split
  · rename_i h
    have key : ∀ j, j < 25 → ∀ x ∈ (fieldTab.getD j []).map (nameList.getD · []), 32 ∉ x ∧ 61 ∉ x ∧ x ∈ nameList := by decide
    exact key _ (by omega)
  · intro x hx; cases hx
theorem nameOf_word {k : Int} (h : 1 ≤ k ∧ k ≤ 25) : nameOf k ≠ [] ∧ 32 ∉ nameOf k ∧ kindNo (posOf (nameOf k) kindList) = k := by
  rw [nameOf, if_pos h]
  have key : ∀ j, j < 25 → kindList.getD j [] ≠ [] ∧ 32 ∉ kindList.getD j [] ∧ kindNo (posOf (kindList.getD j []) kindList) = j + 1 := by decide
  obtain ⟨h1, h2, h3⟩ := key (k.toNat - 1) (by omega)
  exact ⟨h1, h2, by rw [h3]; omega⟩
theorem fields_nodup (k : Int) : (fieldsOf k).Nodup := by
  unfold fieldsOf
  split
  · rename_i h
    have key : ∀ j, j < 25 → ((fieldTab.getD j []).map (nameList.getD · [])).Nodup := by decide
    exact key _ (by omega)
  · exact List.nodup_nil
theorem numWords_snoc (c : Cmd) (fs : List (List UInt8)) (x : List UInt8) : numWords c (fs ++ [x]) = numWords c fs ++ if getN c x = 0 then [] else [numWord c x] := by
  unfold numWords
  rw [List.filter_append, List.map_append]
  split
  · rename_i h; simp [List.filter_cons, h]
  · rename_i h; simp [List.filter_cons, h]
theorem words_nums {c : Cmd} (hk : 1 ≤ c.kind ∧ c.kind ≤ 25) : ∀ k, k ≤ (fieldsOf c.kind).length → wordsOf (lineNums c k) = nameOf c.kind :: numWords c ((fieldsOf c.kind).take k)
  | 0, _ => by
    obtain ⟨h1, h2, _⟩ := nameOf_word hk
    simp only [lineNums, List.take_zero, List.foldl_nil, numWords, List.filter_nil, List.map_nil]
    exact wordsOf_one h1 h2
  | k + 1, h => by
    have hlt : k < (fieldsOf c.kind).length := by omega
    have ih := words_nums hk k (by omega)
    obtain ⟨b1, b2, _⟩ := fields_bytes (fieldsOf c.kind)[k] (List.getElem_mem hlt)
    rw [lineNums_succ hlt, List.take_succ_eq_append_getElem hlt, numWords_snoc]
    unfold lineStep
    split
    · rename_i hz
      rw [ih]; simp
    · rename_i hz
      have e : lineNums c k ++ ([32] ++ (fieldsOf c.kind)[k] ++ [61] ++ Lib.itoa (getN c (fieldsOf c.kind)[k])) = lineNums c k ++ 32 :: numWord c (fieldsOf c.kind)[k] := by simp [numWord]
      rw [e, wordsOf_snoc (by simp [numWord]) ?_, ih]
      · simp
      · unfold numWord
        simp only [List.mem_append, List.mem_cons, not_or]
        exact ⟨b1, by decide, itoa_no (by decide) (by decide)⟩
/-- The numbers told one by one. -/
def setAll (c : Cmd) (d : Cmd) (fs : List (List UInt8)) : Cmd := fs.foldl (fun d name => if getN c name = 0 then d else (d.setN name (getN c name)).1) d
theorem setAll_cons (c d : Cmd) (x : List UInt8) (r : List (List UInt8)) : setAll c d (x :: r) = setAll c (if getN c x = 0 then d else (d.setN x (getN c x)).1) r := rfl
theorem setN_kind {d : Cmd} {x : List UInt8} (h : x ∈ nameList) (n : Int) : (d.setN x n).1.kind = d.kind ∧ (d.setN x n).1.gives = d.gives ∧ (d.setN x n).1.wants = d.wants := by
  obtain ⟨p, hp⟩ := posOf_mem h
  simp [Cmd.setN, hp]
theorem setAll_kind {c : Cmd} : ∀ {fs : List (List UInt8)} {d : Cmd}, (∀ x ∈ fs, x ∈ nameList) → (setAll c d fs).kind = d.kind ∧ (setAll c d fs).gives = d.gives ∧ (setAll c d fs).wants = d.wants
  | [], d, _ => ⟨rfl, rfl, rfl⟩
  | x :: r, d, h => by
    have ih := @setAll_kind c r (if getN c x = 0 then d else (d.setN x (getN c x)).1) fun y hy => h y (List.mem_cons_of_mem _ hy)
    rw [setAll_cons]
    split at ih
    · rename_i hz; rw [if_pos hz]; exact ih
    · rename_i hz
      rw [if_neg hz]
      obtain ⟨k1, k2, k3⟩ := setN_kind (d := d) (h x (List.mem_cons_self ..)) (getN c x)
      exact ⟨ih.1.trans k1, ih.2.1.trans k2, ih.2.2.trans k3⟩
/-- A list told as words is parsed number by number. -/
theorem wordsIn_nums {c : Cmd} (hc : c.inR) : ∀ (fs : List (List UInt8)) (d : Cmd) (seen rest : List (List UInt8)), d.kind = c.kind → fs.Nodup → (∀ x ∈ fs, x ∈ fieldsOf c.kind ∧ x ∉ seen) →
    wordsIn d seen (numWords c fs ++ rest) = wordsIn (setAll c d fs) (seen ++ fs.filter fun name => decide (getN c name ≠ 0)) rest
  | [], d, seen, rest, _, _, _ => by simp [numWords, setAll]
  | x :: r, d, seen, rest, hk, hn, hs => by
    rw [setAll_cons]
    obtain ⟨hf, hse⟩ := hs x (List.mem_cons_self ..)
    obtain ⟨b1, b2, b3⟩ := fields_bytes x hf
    rw [List.nodup_cons] at hn
    by_cases hz : getN c x = 0
    · have e1 : numWords c (x :: r) = numWords c r := by simp [numWords, List.filter_cons, hz]
      rw [e1, if_pos hz, wordsIn_nums hc r d seen rest hk hn.2 fun y hy => hs y (List.mem_cons_of_mem _ hy)]
      simp [List.filter_cons, hz]
    · have e1 : numWords c (x :: r) = numWord c x :: numWords c r := by simp [numWords, List.filter_cons, hz]
      obtain ⟨p, hp⟩ := posOf_mem b3
      have hgw : ¬ (d.kind = 14 ∧ (x = txGives ∨ x = txWants)) := by
        rintro ⟨_, h | h⟩
        · subst h; revert b3; decide
        · subst h; revert b3; decide
      have hstep : stepOf d seen (numWord c x) = some (d.setN x (getN c x)).1 := by
        have := step_num (c := d) (seen := seen) (w := numWord c x) (name := x) (text := Lib.itoa (getN c x)) (n := getN c x) (p := p) (cutAt_app b2) hse hgw (numOf_itoa (getN_inR hc x)) (by rw [hk]; exact hf) hp
        rw [this, Cmd.setN, hp]
      rw [e1, if_neg hz, List.cons_append, wordsIn_some hstep]
      have hcut : (cutAt 61 (numWord c x)).1 = x := by rw [numWord, cutAt_app b2]
      rw [hcut, wordsIn_nums hc r _ (seen ++ [x]) rest ((setN_kind b3 _).1.trans hk) hn.2 fun y hy => ⟨(hs y (List.mem_cons_of_mem _ hy)).1, by
        simp only [List.mem_append, List.mem_singleton, not_or]
        exact ⟨(hs y (List.mem_cons_of_mem _ hy)).2, fun e => by subst e; exact hn.1 hy⟩⟩]
      simp [List.filter_cons, hz]
end Go.Ab
