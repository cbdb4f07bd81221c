import Derived.Test.YtjnkfcbbgfgmhaaDoorAdLp
set_option linter.unusedSimpArgs false
set_option linter.unusedVariables false
namespace Go.Ab
open Go Go.Ab Go.Proofs
set_option maxRecDepth 100000
theorem join_cons2 (x y : List UInt8) (r : List (List UInt8)) : Lib.join (x :: y :: r) [44] = x ++ 44 :: Lib.join (y :: r) [44] := by simp [Lib.join, List.intercalate, List.intersperse]
theorem join_one (x : List UInt8) : Lib.join [x] [44] = x := by simp [Lib.join, List.intercalate]
theorem split_join : ∀ (ws : List (List UInt8)), ws ≠ [] → (∀ w ∈ ws, 44 ∉ w) → splitAcc 44 [] (Lib.join ws [44]) = ws
  | [], h, _ => absurd rfl h
  | [x], _, h => by rw [join_one, splitAcc_none x [] (h x (List.mem_cons_self ..))]; rfl
  | x :: y :: r, _, h => by
    rw [join_cons2, splitAcc_app, splitAcc_none x [] (h x (List.mem_cons_self ..)), split_join (y :: r) (by simp) fun w hw => h w (List.mem_cons_of_mem _ hw)]
    rfl
theorem stkText_bytes {s : Stk} : ∀ b ∈ stkText s, b = 120 ∨ b = 45 ∨ (48 ≤ b.toNat ∧ b.toNat ≤ 57) := by
  intro b hb
  simp only [stkText, List.mem_append, List.mem_singleton] at hb
  rcases hb with (hb | hb) | hb
  · exact .inr (itoa_bytes b hb)
  · exact .inl hb
  · exact .inr (itoa_bytes b hb)
theorem listText_bytes : ∀ (l : List Stk), ∀ b ∈ listText l, b = 44 ∨ b = 120 ∨ b = 45 ∨ (48 ≤ b.toNat ∧ b.toNat ≤ 57)
  | [], b, h => by simp [listText, Lib.join, List.intercalate] at h
  | [s], b, h => by
    rw [listText, List.map_cons, List.map_nil, join_one] at h
    exact .inr (stkText_bytes b h)
  | s :: t :: r, b, h => by
    rw [listText, List.map_cons, List.map_cons, join_cons2, List.mem_append, List.mem_cons] at h
    rcases h with h | h | h
    · exact .inr (stkText_bytes b h)
    · exact .inl h
    · exact listText_bytes (t :: r) b h
theorem listText_no {l : List Stk} : 32 ∉ listText l ∧ 61 ∉ listText l := by
  constructor <;>
  · intro h
    rcases listText_bytes l _ h with e | e | e | e
    · revert e; decide
    · revert e; decide
    · revert e; decide
    · revert e; decide
theorem stkOf_text {s : Stk} (h : s.inR) : stkOf (stkText s) = some s := by
  rw [stkOf_nums]
  have e : stkText s = Lib.itoa s.t ++ 120 :: Lib.itoa s.q := by simp [stkText]
  rw [e, cutAt_app (itoa_no (by decide) (by decide))]
  simp only
  rw [numOf_itoa h.1, numOf_itoa h.2]
theorem stkAll_text : ∀ {l : List Stk}, (∀ s ∈ l, s.inR) → stkAll (l.map stkText) = some l
  | [], _ => rfl
  | s :: r, h => by
    rw [List.map_cons, stkAll, stkOf_text (h s (List.mem_cons_self ..)), stkAll_text fun x hx => h x (List.mem_cons_of_mem _ hx)]
theorem stksOf_text {l : List Stk} (h0 : l ≠ []) (h8 : l.length ≤ 8) (h : ∀ s ∈ l, s.inR) : stksOf (listText l) = some l := by
  unfold stksOf listText
  rw [split_join _ (by simpa using h0) (fun w hw => by
    obtain ⟨s, _, rfl⟩ := List.mem_map.1 hw
    intro hb
    rcases stkText_bytes _ hb with e | e | e
    · revert e; decide
    · revert e; decide
    · revert e; decide)]
  exact stksOfP_some (stkAll_text h) (by simpa using h8)
theorem stkText_41 {s : Stk} (h : s.inR) : (stkText s).length ≤ 41 := by
  have h1 := (itoa_20 h.1).2
  have h2 := (itoa_20 h.2).2
  simp only [stkText, List.length_append, List.length_singleton]; omega
theorem join_tight : ∀ (l : List (List UInt8)) (m : Nat), l ≠ [] → (∀ x ∈ l, x.length ≤ m) → (Lib.join l [44]).length + 1 ≤ l.length * (m + 1)
  | [], m, h, _ => absurd rfl h
  | [x], m, _, h => by
    have := h x (List.mem_cons_self ..)
    rw [join_one]; simp; omega
  | x :: y :: r, m, _, h => by
    have h1 := h x (List.mem_cons_self ..)
    have ih := join_tight (y :: r) m (by simp) fun z hz => h z (List.mem_cons_of_mem _ hz)
    rw [join_cons2]
    simp only [List.length_append, List.length_cons, Nat.add_mul] at ih ⊢
    omega
theorem listText_335 {l : List Stk} (h8 : l.length ≤ 8) (h : ∀ s ∈ l, s.inR) : (listText l).length ≤ 335 := by
  by_cases h0 : l = []
  · subst h0; simp [listText, Lib.join, List.intercalate]
  · have := join_tight (l.map stkText) 41 (by simpa using h0) fun x hx => by
      obtain ⟨s, hs, rfl⟩ := List.mem_map.1 hx
      exact stkText_41 (h s hs)
    simp only [List.length_map] at this
    unfold listText
    have : l.length * 42 ≤ 8 * 42 := Nat.mul_le_mul_right 42 h8
    omega
def fieldSum (fs : List (List UInt8)) : Nat := (fs.map fun x => x.length + 22).sum
theorem lineNums_tight {c : Cmd} (hc : c.inR) : ∀ k, k ≤ (fieldsOf c.kind).length → (lineNums c k).length ≤ (nameOf c.kind).length + fieldSum ((fieldsOf c.kind).take k)
  | 0, _ => by simp [lineNums, fieldSum]
  | k + 1, h => by
    have hlt : k < (fieldsOf c.kind).length := by omega
    have ih := lineNums_tight hc k (by omega)
    rw [lineNums_succ hlt]
    have h1 := (itoa_20 (getN_inR hc (fieldsOf c.kind)[k])).2
    have e : fieldSum ((fieldsOf c.kind).take (k + 1)) = fieldSum ((fieldsOf c.kind).take k) + ((fieldsOf c.kind)[k].length + 22) := by
      rw [List.take_succ_eq_append_getElem hlt]; simp only [fieldSum, List.map_append, List.sum_append, List.map_cons, List.map_nil, List.sum_cons, List.sum_nil]; omega
    rw [e]
    unfold lineStep
    split
    · omega
    · simp only [List.length_append, List.length_singleton]; omega
theorem kind_of_fields {k : Int} (h : fieldsOf k ≠ []) : 1 ≤ k ∧ k ≤ 25 := by
  unfold fieldsOf at h
  split at h
  · assumption
  · exact absurd rfl h
theorem fields_sum {k : Int} (h : 1 ≤ k ∧ k ≤ 25) : (nameOf k).length + fieldSum (fieldsOf k) ≤ 286 := by
  rw [nameOf, if_pos h, fieldsOf, if_pos h]
  have key : ∀ j, j < 25 → (kindList.getD j []).length + fieldSum ((fieldTab.getD j []).map (nameList.getD · [])) ≤ 286 := by decide
  exact key _ (by omega)
theorem line_len {c : Cmd} (hc : c.inR) (hok : checkOk c) : (lineText c).length ≤ 1024 := by
  have hk := kind_of_fields hok.1
  have h1 := lineNums_tight hc _ (Nat.le_refl _)
  rw [List.take_length] at h1
  have h2 := fields_sum hk
  have hl : c.gives.length ≤ 8 ∧ c.wants.length ≤ 8 := by
    have := hok.2.1
    unfold listsOk at this
    split at this
    · simpa using this
    · simp only [Bool.and_eq_true, decide_eq_true_eq] at this
      rw [this.1, this.2]; simp
  have h3 := listText_335 hl.1 hc.2.1
  have h4 := listText_335 hl.2 hc.2.2
  have e1 := withList_len (lineNums c (fieldsOf c.kind).length) [32, 103, 105, 118, 101, 115, 61] c.gives
  have e2 := withList_len (withList (lineNums c (fieldsOf c.kind).length) [32, 103, 105, 118, 101, 115, 61] c.gives) [32, 119, 97, 110, 116, 115, 61] c.wants
  simp only [List.length_cons, List.length_nil] at e1 e2
  unfold lineText
  omega
theorem words_with {s tag : List UInt8} {l : List Stk} (ht : 32 ∉ tag) : wordsOf (withList s (32 :: tag ++ [61]) l) = wordsOf s ++ if l = [] then [] else [tag ++ 61 :: listText l] := by
  unfold withList
  split
  · rename_i h; simp
  · rename_i h
    have e : s ++ (32 :: tag ++ [61] ++ listText l) = s ++ 32 :: (tag ++ 61 :: listText l) := by simp
    rw [e, wordsOf_snoc (by simp) (by
      simp only [List.mem_append, List.mem_cons, not_or]
      exact ⟨ht, by decide, listText_no.1⟩)]
theorem setAll_num {c : Cmd} : ∀ {fs : List (List UInt8)} {d : Cmd} {i : Nat}, (∀ x ∈ fs, x ∈ nameList) → fs.Nodup → i < 19 →
    (setAll c d fs).num i = if nameList.getD i [] ∈ fs ∧ c.num i ≠ 0 then c.num i else d.num i
  | [], d, i, _, _, _ => by simp [setAll]
  | x :: r, d, i, h, hn, hi => by
    rw [List.nodup_cons] at hn
    obtain ⟨p, hp⟩ := posOf_mem (h x (List.mem_cons_self ..))
    obtain ⟨hp1, hp2⟩ := posOf_lt hp
    have ih := @setAll_num c r (if getN c x = 0 then d else (d.setN x (getN c x)).1) i (fun y hy => h y (List.mem_cons_of_mem _ hy)) hn.2 hi
    have hg : getN c x = c.num p := by unfold getN; rw [hp]
    rw [setAll_cons, ih]
    have hself := posOf_self hi
    by_cases hx : nameList.getD i [] = x
    · have hpi : p = i := by rw [hx, hp] at hself; exact Option.some.inj hself
      subst hpi
      have hnr : nameList.getD p [] ∉ r := by rw [hx]; exact hn.1
      rw [if_neg (fun e => hnr e.1), hg]
      by_cases hz : c.num p = 0
      · rw [if_pos hz, if_neg (fun e => e.2 hz)]
      · rw [if_neg hz, if_pos ⟨by rw [hx]; exact List.mem_cons_self .., hz⟩]
        simp [Cmd.setN, hp]
    · have hpi : ¬ i = p := fun e => by
        subst e
        apply hx
        rw [← hp2, List.getD_eq_getElem?_getD, List.getElem?_eq_getElem hp1]; rfl
      have e1 : (if getN c x = 0 then d else (d.setN x (getN c x)).1).num i = d.num i := by
        split
        · rfl
        · simp [Cmd.setN, hp, hpi]
      rw [e1]
      simp only [List.mem_cons, hx, false_or]
theorem num_of_ok {c : Cmd} (hok : checkOk c) {i : Nat} (hi : i < 19) : (setAll c (startOf c.kind) (fieldsOf c.kind)).num i = c.num i := by
  rw [setAll_num (fun x hx => (fields_bytes x hx).2.2) (fields_nodup _) hi]
  split
  · rfl
  · rename_i h
    rcases hok.2.2 i hi with e | e
    · rw [e]; rfl
    · by_cases hz : c.num i = 0
      · rw [hz]; rfl
      · exact absurd ⟨e, hz⟩ h
/-- WHAT A COMMAND's LINE SAYS IS TOLD BY IT AGAIN. -/
theorem parse_line {c : Cmd} (hc : c.inR) (hok : checkOk c) : ∃ d, parseOf (lineText c) = some d ∧ d.same c = true := by
  have hk := kind_of_fields hok.1
  have hlen := line_len hc hok
  obtain ⟨n1, n2, n3⟩ := nameOf_word hk
  have hw := words_nums hk _ (Nat.le_refl (fieldsOf c.kind).length)
  rw [List.take_length] at hw
  have hwords : wordsOf (lineText c) = nameOf c.kind :: (numWords c (fieldsOf c.kind) ++ ((if c.gives = [] then [] else [txGives ++ 61 :: listText c.gives]) ++ if c.wants = [] then [] else [txWants ++ 61 :: listText c.wants])) := by
    unfold lineText
    rw [show ([32, 119, 97, 110, 116, 115, 61] : List UInt8) = 32 :: txWants ++ [61] from rfl, words_with (by decide), show ([32, 103, 105, 118, 101, 115, 61] : List UInt8) = 32 :: txGives ++ [61] from rfl, words_with (by decide), hw]
    simp
  unfold parseOf
  have hk0 : kindNo (posOf (nameOf c.kind) kindList) ≠ 0 := by rw [n3]; omega
  rw [hwords, parseW_ok (by omega) hk0, n3, wordsIn_nums hc (fieldsOf c.kind) (startOf c.kind) [] _ rfl (fields_nodup _) (fun x hx => ⟨hx, by simp⟩)]
  have hnum : ∀ i, i < 19 → (setAll c (startOf c.kind) (fieldsOf c.kind)).num i = c.num i := fun i hi => num_of_ok hok hi
  obtain ⟨k1, k2, k3⟩ := @setAll_kind c (fieldsOf c.kind) (startOf c.kind) fun x hx => (fields_bytes x hx).2.2
  have hseen : ∀ x ∈ ([] : List (List UInt8)) ++ (fieldsOf c.kind).filter (fun name => decide (getN c name ≠ 0)), x ∈ nameList := fun x hx => by
    rw [List.nil_append] at hx
    exact (fields_bytes x (List.mem_filter.1 hx).1).2.2
  generalize [] ++ (fieldsOf c.kind).filter (fun name => decide (getN c name ≠ 0)) = seen at hseen ⊢
  generalize setAll c (startOf c.kind) (fieldsOf c.kind) = d at *
  have hsame : ∀ e : Cmd, (∀ i, i < 19 → e.num i = c.num i) → e.kind = c.kind → e.gives = c.gives → e.wants = c.wants → e.same c = true := by
    intro e h1 h2 h3 h4
    have : e.nums = c.nums := by
      unfold Cmd.nums
      exact List.map_congr_left fun i hi => h1 i (List.mem_range.1 hi)
    simp [Cmd.same, this, h2, h3, h4]
  have hng : txGives ∉ seen := fun h => by have := hseen _ h; revert this; decide
  have hnw : txWants ∉ seen := fun h => by have := hseen _ h; revert this; decide
  have hne : txWants ≠ txGives := by decide
  have hl := hok.2.1
  have cutG : cutAt 61 (txGives ++ 61 :: listText c.gives) = (txGives, listText c.gives, true) := cutAt_app (by decide)
  have cutW : cutAt 61 (txWants ++ 61 :: listText c.wants) = (txWants, listText c.wants, true) := cutAt_app (by decide)
  have kd : d.kind = c.kind := k1
  by_cases h14 : c.kind = 14
  · have h8 : c.gives.length ≤ 8 ∧ c.wants.length ≤ 8 := by
      unfold listsOk at hl
      rw [if_pos h14] at hl
      simpa using hl
    have kd14 : d.kind = 14 := kd.trans h14
    by_cases hg : c.gives = []
    · by_cases hwn : c.wants = []
      · rw [if_pos hg, if_pos hwn]
        exact ⟨d, rfl, hsame d hnum kd (k2.trans hg.symm) (k3.trans hwn.symm)⟩
      · rw [if_pos hg, if_neg hwn]
        rw [List.nil_append, wordsIn_some (step_list kd14 cutW hnw (.inr rfl) (stksOf_text hwn h8.2 hc.2.2)), if_neg hne]
        exact ⟨_, rfl, hsame _ hnum kd (k2.trans hg.symm) rfl⟩
    · rw [if_neg hg]
      rw [List.cons_append, List.nil_append, wordsIn_some (step_list kd14 cutG hng (.inl rfl) (stksOf_text hg h8.1 hc.2.1)), if_pos rfl]
      by_cases hwn : c.wants = []
      · rw [if_pos hwn]
        exact ⟨_, rfl, hsame _ hnum kd rfl (k3.trans hwn.symm)⟩
      · rw [if_neg hwn, cutG]
        rw [wordsIn_some (step_list (c := { d with gives := c.gives }) (seen := seen ++ [txGives]) kd14 cutW (by
          simp only [List.mem_append, List.mem_singleton, not_or]; exact ⟨hnw, hne⟩) (.inr rfl) (stksOf_text hwn h8.2 hc.2.2)), if_neg hne]
        exact ⟨_, rfl, hsame _ hnum kd rfl rfl⟩
  · have h0 : c.gives = [] ∧ c.wants = [] := by
      unfold listsOk at hl
      rw [if_neg h14] at hl
      simpa using hl
    rw [if_pos h0.1, if_pos h0.2]
    exact ⟨d, rfl, hsame d hnum kd (k2.trans h0.1.symm) (k3.trans h0.2.symm)⟩
end Go.Ab
