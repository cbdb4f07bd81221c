import Derived.Test.YtjnkfcbbgfgmhaaDoorAdP1
set_option linter.unusedSimpArgs false
set_option linter.unusedVariables false
namespace Go.Ab
open Go Go.Ab Go.Proofs
set_option maxRecDepth 100000
theorem get_list (l : List UInt8) (i : Nat) : (⟨l.toArray⟩ : ByteArray).get! i = l.getD i 0 := by
  show l.toArray[i]! = _
  rw [Array.getElem!_eq_getD, List.getD_eq_getElem?_getD]
  simp [Array.getD_eq_getD_getElem?]
  rfl
/-- What 'decode' reads: no byte of a rune of more than one byte is a blank. -/
theorem decode_blank (l : List UInt8) (pos : Nat) (h : pos < l.length) :
    1 ≤ (Utf8.decode ⟨l.toArray⟩ pos).2 ∧ pos + (Utf8.decode ⟨l.toArray⟩ pos).2 ≤ l.length ∧
    (((Utf8.decode ⟨l.toArray⟩ pos).1 = 32 ∧ (Utf8.decode ⟨l.toArray⟩ pos).2 = 1 ∧ l.getD pos 0 = 32) ∨
     ((Utf8.decode ⟨l.toArray⟩ pos).1 ≠ 32 ∧ ∀ j, j < (Utf8.decode ⟨l.toArray⟩ pos).2 → l.getD (pos + j) 0 ≠ 32)) := by
  have hsz : (⟨l.toArray⟩ : ByteArray).size = l.length := by simp [ByteArray.size]
  have hne : ∀ x : UInt8, x.toNat ≠ 32 → x ≠ 32 := fun x hx e => hx (by rw [e]; rfl)
  have h32 : ∀ x : UInt8, x.toNat = 32 → x = 32 := fun x hx => UInt8.toNat_inj.1 hx
  have key : ∀ (r n : Nat), Utf8.decode ⟨l.toArray⟩ pos = (r, n) → 1 ≤ n ∧ pos + n ≤ l.length ∧ ((r = 32 ∧ n = 1 ∧ l.getD pos 0 = 32) ∨ (r ≠ 32 ∧ ∀ j, j < n → l.getD (pos + j) 0 ≠ 32)) := by
    intro r n hd
    simp only [Utf8.decode, get_list, hsz, Nat.add_zero, ge_iff_le, Bool.and_eq_true, beq_iff_eq, decide_eq_true_eq] at hd
    generalize h0 : l.getD pos 0 = b0 at *
    generalize h1 : l.getD (pos + 1) 0 = b1 at *
    generalize h2 : l.getD (pos + 2) 0 = b2 at *
    generalize h3 : l.getD (pos + 3) 0 = b3 at *
    have j0 : ∀ j, j < 1 → l.getD (pos + j) 0 = b0 := fun j hj => by have : j = 0 := by omega
                                                                     subst this; exact h0
    have one : b0.toNat ≠ 32 → ∀ j, j < 1 → l.getD (pos + j) 0 ≠ 32 := fun hb j hj => by rw [j0 j hj]; exact hne _ hb
    split at hd
    · cases hd
      refine ⟨by omega, by omega, ?_⟩
      by_cases hb : b0.toNat = 32
      · exact .inl ⟨hb, rfl, h32 _ hb⟩
      · exact .inr ⟨hb, one hb⟩
    · rename_i hb
      have err : 1 ≤ 1 ∧ pos + 1 ≤ l.length ∧ ((Utf8.runeError = 32 ∧ 1 = 1 ∧ b0 = 32) ∨ (Utf8.runeError ≠ 32 ∧ ∀ j, j < 1 → l.getD (pos + j) 0 ≠ 32)) :=
        ⟨by omega, by omega, .inr ⟨by decide, one (by omega)⟩⟩
      split at hd
      · rename_i hc
        split at hd
        · cases hd
          refine ⟨by omega, by omega, .inr ⟨by omega, fun j hj => ?_⟩⟩
          have : j = 0 ∨ j = 1 := by omega
          rcases this with rfl | rfl
          · rw [Nat.add_zero, h0]; exact hne _ (by omega)
          · rw [h1]; exact hne _ (by omega)
        · cases hd; exact err
      · split at hd
        · rename_i hc
          split at hd
          · cases hd
            refine ⟨by omega, by omega, .inr ⟨by omega, fun j hj => ?_⟩⟩
            have : j = 0 ∨ j = 1 ∨ j = 2 := by omega
            rcases this with rfl | rfl | rfl
            · rw [Nat.add_zero, h0]; exact hne _ (by omega)
            · rw [h1]; exact hne _ (by omega)
            · rw [h2]; exact hne _ (by omega)
          · cases hd; exact err
        · split at hd
          · rename_i hc
            split at hd
            · cases hd
              refine ⟨by omega, by omega, .inr ⟨by omega, fun j hj => ?_⟩⟩
              have : j = 0 ∨ j = 1 ∨ j = 2 ∨ j = 3 := by omega
              rcases this with rfl | rfl | rfl | rfl
              · rw [Nat.add_zero, h0]; exact hne _ (by omega)
              · rw [h1]; exact hne _ (by omega)
              · rw [h2]; exact hne _ (by omega)
              · rw [h3]; exact hne _ (by omega)
            · cases hd; exact err
          · cases hd; exact err
  exact key _ _ rfl
theorem splitAcc_skip (l : List UInt8) : ∀ (n : Nat) (p : List UInt8) (pos : Nat), (∀ j, j < n → l.getD (pos + j) 0 ≠ 32) → pos + n ≤ l.length → splitAcc 32 p (l.drop pos) = splitAcc 32 (p ++ (l.drop pos).take n) (l.drop (pos + n))
  | 0, p, pos, _, _ => by simp
  | n + 1, p, pos, h, hl => by
    have hlt : pos < l.length := by omega
    have h0 := h 0 (by omega)
    rw [Nat.add_zero, getD_lt hlt] at h0
    rw [List.drop_eq_getElem_cons hlt, splitAcc, if_neg h0, splitAcc_skip l n _ (pos + 1) (fun j hj => by have := h (j + 1) (by omega); rwa [show pos + 1 + j = pos + (j + 1) by omega]) (by omega)]
    rw [List.append_assoc, List.singleton_append, List.take_succ_cons, show pos + 1 + n = pos + (n + 1) by omega]
def part (l : List UInt8) (a b : Nat) : List UInt8 := (l.drop a).take (b - a)
theorem part_len (l : List UInt8) {a b : Nat} (h : b ≤ l.length) : (part l a b).length = b - a := by
  unfold part; rw [List.length_take, List.length_drop]; omega
theorem part_app (l : List UInt8) {a b n : Nat} (h : a ≤ b) : part l a b ++ (l.drop b).take n = part l a (b + n) := by
  unfold part
  have e1 : b + n - a = (b - a) + n := by omega
  have e2 : l.drop b = (l.drop a).drop (b - a) := by rw [List.drop_drop]; congr 1; omega
  rw [e1, e2, List.take_add]
/-- What the loop over a text's runes has found. -/
def WordsAt (l : List UInt8) (pos frm : Nat) (out : List (List UInt8)) : Prop :=
  frm ≤ pos ∧ out.length ≤ frm ∧ ((pos ≤ l.length ∧ out ++ (splitAcc 32 (part l frm pos) (l.drop pos)).filter ne0 = wordsOf l) ∨ (pos = l.length + 1 ∧ out = wordsOf l))
theorem WordsAt.skip {l : List UInt8} {pos frm n : Nat} {out : List (List UInt8)} (h : WordsAt l pos frm out) (hp : pos + n ≤ l.length) (hn : ∀ j, j < n → l.getD (pos + j) 0 ≠ 32) : WordsAt l (pos + n) frm out := by
  obtain ⟨h1, h2, h3⟩ := h
  refine ⟨by omega, h2, ?_⟩
  rcases h3 with ⟨_, h3⟩ | ⟨h3, _⟩
  · rw [splitAcc_skip l n _ pos hn hp, part_app l h1] at h3
    exact .inl ⟨hp, h3⟩
  · omega
theorem WordsAt.blank {l : List UInt8} {pos frm : Nat} {out : List (List UInt8)} (h : WordsAt l pos frm out) (hp : pos < l.length + 1) (hn : (l ++ [32]).getD pos 0 = 32) :
    WordsAt l (pos + 1) (pos + 1) (if frm < pos then out ++ [part l frm pos] else out) := by
  obtain ⟨h1, h2, h3⟩ := h
  have hpl : pos ≤ l.length := by omega
  have hlen := part_len l (a := frm) hpl
  refine ⟨by omega, by split <;> (try simp only [List.length_append, List.length_singleton]) <;> omega, ?_⟩
  have hne : frm < pos → ne0 (part l frm pos) = true := fun hlt => ne0_of fun e => by rw [e] at hlen; simp at hlen; omega
  have hem : ¬ frm < pos → part l frm pos = [] := fun hlt => List.eq_nil_of_length_eq_zero (by omega)
  rcases h3 with ⟨_, h3⟩ | ⟨h3, _⟩
  · by_cases hlt : pos < l.length
    · have e0 : l[pos] = 32 := by
        rw [List.getD_eq_getElem?_getD, List.getElem?_append_left hlt, List.getElem?_eq_getElem hlt] at hn
        exact hn
      left
      refine ⟨by omega, ?_⟩
      rw [List.drop_eq_getElem_cons hlt, splitAcc, if_pos e0] at h3
      rw [← h3]
      have : part l (pos + 1) (pos + 1) = [] := by unfold part; simp
      rw [this]
      by_cases hf : frm < pos
      · rw [if_pos hf, List.filter_cons, if_pos (hne hf)]; simp
      · rw [if_neg hf, hem hf]; simp [List.filter_cons, ne0]
    · have e0 : pos = l.length := by omega
      subst e0
      right
      refine ⟨rfl, ?_⟩
      rw [List.drop_length, splitAcc] at h3
      rw [← h3]
      by_cases hf : frm < l.length
      · rw [if_pos hf]; simp [List.filter_cons, hne hf]
      · rw [if_neg hf, hem hf]; simp [List.filter_cons, ne0]
  · omega
theorem WordsAt.nolast {l : List UInt8} {pos n : Nat} (hn : ∀ j, j < n → (l ++ [32]).getD (pos + j) 0 ≠ 32) (h1 : 1 ≤ n) (h2 : pos + n ≤ l.length + 1) : pos + n ≤ l.length ∧ ∀ j, j < n → l.getD (pos + j) 0 ≠ 32 := by
  have hlast : (l ++ [32]).getD l.length 0 = (32 : UInt8) := by simp [List.getD_eq_getElem?_getD]
  have hle : pos + n ≤ l.length := by
    by_cases h : pos + n = l.length + 1
    · have := hn (n - 1) (by omega)
      rw [show pos + (n - 1) = l.length by omega] at this
      exact absurd hlast this
    · omega
  refine ⟨hle, fun j hj => ?_⟩
  have := hn j hj
  rwa [List.getD_eq_getElem?_getD, List.getElem?_append_left (by omega), ← List.getD_eq_getElem?_getD] at this
theorem words_spec (H : Hp) (l : List UInt8) (hl : l.length < 4294967281) : Spec Tryd.prog 22 [D.str l] H (Ret [texts (wordsOf l)] H) := by
  refine Spec.ofL [] Tryd.func22 rfl (by kernel_rfl) ?_
  simp (maxSteps := 4000000) -implicitDefEqProofs only [go_sem, vc_condC, Tryd.results22, Nat.reduceEqDiff, Nat.reduceAdd, Nat.reduceLeDiff, Nat.reduceLT, Nat.reduceMul, Nat.reduceSub, List.reduceReplicate, Int.reduceToNat, Int.reduceLT, Int.reduceLE, Int.reduceEq, Int.reduceAdd, Int.reduceSub, Int.reduceMul, Int.reduceNeg, Nat.zero_add]
  refine ⟨by omega, fun b hb => ?_⟩
  refine loop_of (fun (x : Nat × Nat × List (List UInt8)) => { env := [(0, .d (D.str l)), (3, .row 25), (4, .d (D.int x.2.1)), (9, ptrV b)], L := [(25, .row 1 true (x.2.2.map D.str))], H := upd H b (.iter (l ++ [32]) x.1) })
    (fun x => WordsAt l x.1 x.2.1 x.2.2) (fun x => l.length + 1 - x.1) (0, 0, []) ⟨by simp, by simp, .inl ⟨by simp, by simp [part]; rfl⟩⟩
    ((imp_adopt _ 3 25 1 true rfl rfl).trans (imp_le (by simp (maxSteps := 4000000) -implicitDefEqProofs only [go_sem, vc_cond, Nat.reduceEqDiff, Nat.reduceAdd, Nat.reduceLeDiff, Nat.reduceLT, Nat.reduceMul, Nat.reduceSub, List.reduceReplicate, Int.reduceToNat, Int.reduceLT, Int.reduceLE, Int.reduceEq, Int.reduceAdd, Int.reduceSub, Int.reduceMul, Int.reduceNeg, Nat.zero_add]))) fun ⟨pos, frm, out⟩ hx => ?_
  simp only at hx
  have hlen : (l ++ [32]).length = l.length + 1 := by simp
  simp (maxSteps := 4000000) -implicitDefEqProofs only [go_sem, vc_condC, Tryd.results22, Nat.reduceEqDiff, Nat.reduceAdd, Nat.reduceLeDiff, Nat.reduceLT, Nat.reduceMul, Nat.reduceSub, List.reduceReplicate, Int.reduceToNat, Int.reduceLT, Int.reduceLE, Int.reduceEq, Int.reduceAdd, Int.reduceSub, Int.reduceMul, Int.reduceNeg, Nat.zero_add]
  refine ⟨fun hlt => ?_, fun hge => ?_⟩
  · rw [hlen] at hlt
    obtain ⟨d1, d2, d3⟩ := decode_blank (l ++ [32]) pos (by omega)
    rw [hlen] at d2
    generalize Utf8.decode ⟨(l ++ [32]).toArray⟩ pos = rn at *
    obtain ⟨r, n⟩ := rn
    simp only at d1 d2 d3
    simp (maxSteps := 4000000) -implicitDefEqProofs only [go_sem, vc_condC, Tryd.results22, Nat.reduceEqDiff, Nat.reduceAdd, Nat.reduceLeDiff, Nat.reduceLT, Nat.reduceMul, Nat.reduceSub, List.reduceReplicate, Int.reduceToNat, Int.reduceLT, Int.reduceLE, Int.reduceEq, Int.reduceAdd, Int.reduceSub, Int.reduceMul, Int.reduceNeg, Nat.zero_add]
    refine cond_of (fun hc => ?_) (fun hc => ?_)
    · have hr : r ≠ 32 := by simp at hc; omega
      rcases d3 with ⟨d3, _⟩ | ⟨_, d3⟩
      · exact absurd d3 hr
      obtain ⟨e1, e2⟩ := WordsAt.nolast d3 d1 d2
      simp (maxSteps := 4000000) -implicitDefEqProofs only [go_sem, vc_condC, Tryd.results22, Nat.reduceEqDiff, Nat.reduceAdd, Nat.reduceLeDiff, Nat.reduceLT, Nat.reduceMul, Nat.reduceSub, List.reduceReplicate, Int.reduceToNat, Int.reduceLT, Int.reduceLE, Int.reduceEq, Int.reduceAdd, Int.reduceSub, Int.reduceMul, Int.reduceNeg, Nat.zero_add]
      refine ⟨(pos + n, frm, out), hx.skip e1 e2, by simp only; omega, ?_⟩
      simp (maxSteps := 4000000) -implicitDefEqProofs only [go_sem, vc_condC, Tryd.results22, Nat.reduceEqDiff, Nat.reduceAdd, Nat.reduceLeDiff, Nat.reduceLT, Nat.reduceMul, Nat.reduceSub, List.reduceReplicate, Int.reduceToNat, Int.reduceLT, Int.reduceLE, Int.reduceEq, Int.reduceAdd, Int.reduceSub, Int.reduceMul, Int.reduceNeg, Nat.zero_add]
    · have hr : r = 32 := by simp at hc; omega
      rcases d3 with ⟨_, rfl, d3⟩ | ⟨d3, _⟩
      · have hb2 := hx.blank hlt d3
        have h1 := hx.1
        have h2 := hx.2.1
        simp (maxSteps := 4000000) -implicitDefEqProofs only [go_sem, vc_condC, Tryd.results22, Nat.reduceEqDiff, Nat.reduceAdd, Nat.reduceLeDiff, Nat.reduceLT, Nat.reduceMul, Nat.reduceSub, List.reduceReplicate, Int.reduceToNat, Int.reduceLT, Int.reduceLE, Int.reduceEq, Int.reduceAdd, Int.reduceSub, Int.reduceMul, Int.reduceNeg, Nat.zero_add]
        refine cond_of (fun hf => ?_) (fun hf => ?_)
        · have hf : frm < pos := by simpa using hf
          simp (maxSteps := 4000000) -implicitDefEqProofs only [go_sem, vc_condC, Tryd.results22, Nat.reduceEqDiff, Nat.reduceAdd, Nat.reduceLeDiff, Nat.reduceLT, Nat.reduceMul, Nat.reduceSub, List.reduceReplicate, Int.reduceToNat, Int.reduceLT, Int.reduceLE, Int.reduceEq, Int.reduceAdd, Int.reduceSub, Int.reduceMul, Int.reduceNeg, Nat.zero_add]
          refine ⟨by omega, by omega, (pos + 1, pos + 1, out ++ [part l frm pos]), by rw [if_pos hf] at hb2; exact hb2, by simp only; omega, ?_⟩
          rw [wrap_i64 (by omega) (by omega)]
          simp (maxSteps := 4000000) -implicitDefEqProofs only [go_sem, vc_condC, Tryd.results22, Nat.reduceEqDiff, Nat.reduceAdd, Nat.reduceLeDiff, Nat.reduceLT, Nat.reduceMul, Nat.reduceSub, List.reduceReplicate, Int.reduceToNat, Int.reduceLT, Int.reduceLE, Int.reduceEq, Int.reduceAdd, Int.reduceSub, Int.reduceMul, Int.reduceNeg, Nat.zero_add, part]
          simp
        · have hf : ¬ frm < pos := by simpa using hf
          simp (maxSteps := 4000000) -implicitDefEqProofs only [go_sem, vc_condC, Tryd.results22, Nat.reduceEqDiff, Nat.reduceAdd, Nat.reduceLeDiff, Nat.reduceLT, Nat.reduceMul, Nat.reduceSub, List.reduceReplicate, Int.reduceToNat, Int.reduceLT, Int.reduceLE, Int.reduceEq, Int.reduceAdd, Int.reduceSub, Int.reduceMul, Int.reduceNeg, Nat.zero_add]
          refine ⟨(pos + 1, pos + 1, out), by rw [if_neg hf] at hb2; exact hb2, by simp only; omega, ?_⟩
          rw [wrap_i64 (by omega) (by omega)]
          simp (maxSteps := 4000000) -implicitDefEqProofs only [go_sem, vc_condC, Tryd.results22, Nat.reduceEqDiff, Nat.reduceAdd, Nat.reduceLeDiff, Nat.reduceLT, Nat.reduceMul, Nat.reduceSub, List.reduceReplicate, Int.reduceToNat, Int.reduceLT, Int.reduceLE, Int.reduceEq, Int.reduceAdd, Int.reduceSub, Int.reduceMul, Int.reduceNeg, Nat.zero_add]
          simp
      · exact absurd hr d3
  · rw [hlen] at hge
    obtain ⟨h1, h2, h3⟩ := hx
    have : out = wordsOf l := by
      rcases h3 with ⟨h3, _⟩ | ⟨_, h3⟩
      · omega
      · exact h3
    subst this
    exact ⟨.inl rfl, subH_new hb⟩
end Go.Ab
