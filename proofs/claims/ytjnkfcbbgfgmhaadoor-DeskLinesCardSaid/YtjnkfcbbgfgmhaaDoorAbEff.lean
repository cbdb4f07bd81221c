/- THE ABSTRACT LAYER, PART 10: new local objects, stores, rows that grow. -/
import Derived.Test.YtjnkfcbbgfgmhaaDoorAbOrd
set_option linter.unusedSimpArgs false
set_option linter.unusedVariables false
namespace Go.Ab
open Go

/-- Objects without one key. -/
def rmL (i : Nat) (L : List (Nat × LO)) : List (Nat × LO) := L.filter fun p => p.1 != i
/-- An object in the place of another. -/
def upL (i : Nat) (o : LO) (L : List (Nat × LO)) : List (Nat × LO) := L.map fun p => if p.1 = i then (i, o) else p
theorem lk_rmL (k i : Nat) (L : List (Nat × LO)) : lk k (rmL i L) = if k = i then none else lk k L := by
  induction L with
  | nil => simp [rmL]
  | cons p r ih =>
    obtain ⟨j, o⟩ := p
    simp only [rmL] at ih ⊢
    rw [List.filter_cons]
    by_cases hj : j = i
    · subst hj
      simp only [bne_self_eq_false, Bool.false_eq_true, if_false, ih, lk_cons]
      by_cases hk : k = j
      · simp [hk]
      · simp [hk, Ne.symm hk]
    · have : (j != i) = true := by simp [hj]
      simp only [this, if_true, lk_cons, ih]
      by_cases hk : j = k
      · subst hk; simp [hj]
      · simp [hk]
theorem lk_upL (k i : Nat) (o : LO) (L : List (Nat × LO)) : lk k (upL i o L) = if k = i ∧ (lk i L).isSome = true then some o else lk k L := by
  induction L with
  | nil => simp [upL]
  | cons p r ih =>
    obtain ⟨j, q⟩ := p
    simp only [upL, List.map_cons] at ih ⊢
    by_cases hj : j = i
    · subst hj
      simp only [if_true, lk_cons]
      by_cases hk : j = k
      · subst hk; simp
      · have : ¬ k = j := fun e => hk e.symm
        simp only [if_neg hk, ih, this, false_and, if_false]
    · simp only [if_neg hj, lk_cons, ih]
      by_cases hk : j = k
      · subst hk; simp [hj]
      · simp [hk]

mutual
/-- What pointed to object i, or was its slice, is forgotten. -/
def V.dem (i : Nat) : V → V
  | .row j => if j = i then .any else .row j
  | .re j k o => if j = i then .any else .re j k o
  | .lp j o => if j = i then .any else .lp j o
  | .agg cs => .agg (demL i cs)
  | .tup cs => .tup (demL i cs)
  | .g b x => .g b (x.dem i)
  | .d x => .d x
  | .pe cs => .pe cs
  | .any => .any
def demL (i : Nat) : List V → List V
  | [] => []
  | x :: r => x.dem i :: demL i r
end
def LO.dem (i : Nat) : LO → LO
  | .box cs => .box (demL i cs)
  | .row sz fz xs => .row sz fz xs
def demEnv (i : Nat) : List (Nat × V) → List (Nat × V)
  | [] => []
  | (k, x) :: r => (k, x.dem i) :: demEnv i r
def demLoc (i : Nat) : List (Nat × LO) → List (Nat × LO)
  | [] => []
  | (k, o) :: r => if k = i then demLoc i r else (k, o.dem i) :: demLoc i r
theorem lk_demEnv (i k : Nat) : ∀ (e : List (Nat × V)), lk k (demEnv i e) = (lk k e).map (V.dem i)
  | [] => rfl
  | (j, x) :: r => by
    simp only [demEnv, lk_cons]
    split
    · rfl
    · exact lk_demEnv i k r
theorem lk_demLoc (i k : Nat) : ∀ (L : List (Nat × LO)), lk k (demLoc i L) = if k = i then none else (lk k L).map (LO.dem i)
  | [] => by simp [demLoc]
  | (j, o) :: r => by
    simp only [demLoc]
    have ih := lk_demLoc i k r
    by_cases hj : j = i
    · subst hj
      rw [if_pos rfl, ih]
      by_cases hk : k = j
      · simp [hk]
      · simp [hk, lk_cons, Ne.symm hk]
    · rw [if_neg hj, lk_cons, lk_cons, ih]
      by_cases hk : j = k
      · subst hk; simp [hj]
      · simp [hk]

mutual
/-- All but object i stays. -/
theorem CV.dem {c c' : Cx} {L L' : List (Nat × LO)} {i : Nat} (hm : Mem.le c.m c'.m) (hs : ∀ k, k ≠ i → (lk k L).isSome = true → (lk k L').isSome = true)
    (hb : ∀ k b, k ≠ i → c.bk k = some b → c'.bk k = some b) (hr : ∀ k sz fz xs, k ≠ i → lk k L = some (.row sz fz xs) → c'.lv k = c.lv k ∧ lk k L' = some (.row sz fz xs)) :
    ∀ {v x}, CV c L v x → CV c' L' v (x.dem i)
  | _, _, .d r => .d (r.mono hm)
  | _, _, .lp (i := j) hl hbk => by
    simp only [V.dem]
    split
    · exact .any
    · rename_i hne; exact .lp (hs _ hne hl) (hb _ _ hne hbk)
  | _, _, .row (i := j) hl => by
    simp only [V.dem]
    split
    · exact .any
    · rename_i hne
      obtain ⟨e, hl'⟩ := hr _ _ _ _ hne hl
      rw [← e]; exact .row hl'
  | _, _, .pe vals h1 h2 => .pe vals (fun i v e => hm _ _ _ (h1 i v e)) (h2.mono hm)
  | _, _, .re (i := j) hl hi hbk => by
    simp only [V.dem]
    split
    · exact .any
    · rename_i hne
      obtain ⟨e, hl'⟩ := hr _ _ _ _ hne hl
      exact .re hl' hi (hb _ _ hne hbk)
  | _, _, .agg r => .agg (CVL.dem hm hs hb hr r)
  | _, _, .tup r => .tup (CVT.dem hm hs hb hr r)
  | _, _, .g r u => .g (fun e => CV.dem hm hs hb hr (r e)) u
  | _, _, .any => .any
theorem CVL.dem {c c' : Cx} {L L' : List (Nat × LO)} {i : Nat} (hm : Mem.le c.m c'.m) (hs : ∀ k, k ≠ i → (lk k L).isSome = true → (lk k L').isSome = true)
    (hb : ∀ k b, k ≠ i → c.bk k = some b → c'.bk k = some b) (hr : ∀ k sz fz xs, k ≠ i → lk k L = some (.row sz fz xs) → c'.lv k = c.lv k ∧ lk k L' = some (.row sz fz xs)) :
    ∀ {vs xs}, CVL c L vs xs → CVL c' L' vs (demL i xs)
  | _, _, .nil => .nil
  | _, _, .cons h1 r t => .cons h1 (CV.dem hm hs hb hr r) (CVL.dem hm hs hb hr t)
theorem CVT.dem {c c' : Cx} {L L' : List (Nat × LO)} {i : Nat} (hm : Mem.le c.m c'.m) (hs : ∀ k, k ≠ i → (lk k L).isSome = true → (lk k L').isSome = true)
    (hb : ∀ k b, k ≠ i → c.bk k = some b → c'.bk k = some b) (hr : ∀ k sz fz xs, k ≠ i → lk k L = some (.row sz fz xs) → c'.lv k = c.lv k ∧ lk k L' = some (.row sz fz xs)) :
    ∀ {vs xs}, CVT c L vs xs → CVT c' L' vs (demL i xs)
  | _, _, .nil => .nil
  | _, _, .cons r t => .cons (CV.dem hm hs hb hr r) (CVT.dem hm hs hb hr t)
end

section
variable {g : Gx} {st : St} {a : Act} {w : World} {c : Cx}

/-- Forgetting object i. -/
theorem Holds.forget (h : Holds g st a w c) (i : Nat) : Holds g { st with env := demEnv i st.env, L := demLoc i st.L } a w c := by
  have hs : ∀ k, k ≠ i → (lk k st.L).isSome = true → (lk k (demLoc i st.L)).isSome = true := fun k hk hl => by rw [lk_demLoc, if_neg hk]; simpa using hl
  have hr : ∀ k sz fz xs, k ≠ i → lk k st.L = some (.row sz fz xs) → c.lv k = c.lv k ∧ lk k (demLoc i st.L) = some (.row sz fz xs) := fun k sz fz xs hk hl => ⟨rfl, by rw [lk_demLoc, if_neg hk, hl]; rfl⟩
  have key : ∀ {k}, (lk k (demLoc i st.L)).isSome = true → k ≠ i ∧ (lk k st.L).isSome = true := by
    intro k hk
    rw [lk_demLoc] at hk
    split at hk
    · cases hk
    · rename_i hne; exact ⟨hne, by simpa using hk⟩
  refine ⟨h.defers, h.slots, ?_, ?_, h.heap, h.agr, h.mono, h.later, fun j k b hj hk => h.inj j k b (key hj).2 (key hk).2, fun j b hj => h.fresh j b (key hj).2, h.foot, h.old, h.inw⟩
  · intro k x hk
    simp only at hk
    rw [lk_demEnv] at hk
    obtain ⟨y, hy, rfl⟩ := Option.map_eq_some_iff.1 hk
    obtain ⟨v, hv, hc⟩ := h.env k y hy
    exact ⟨v, hv, hc.dem (.refl _) hs (fun _ _ _ e => e) hr⟩
  · intro k o hk
    simp only at hk ⊢
    rw [lk_demLoc] at hk
    split at hk
    · cases hk
    · obtain ⟨o', ho', rfl⟩ := Option.map_eq_some_iff.1 hk
      cases h.loc k o' ho' with
      | box hb hh hm hv => exact .box hb hh hm (hv.dem (.refl _) hs (fun _ _ _ e => e) hr)
      | nil hv hb => exact .nil hv hb
      | row hz hv hb hh hc hcm hsz hx hr hm => exact .row hz hv hb hh hc hcm hsz hx hr hm

/-- A new box. -/
theorem Holds.newBox (h : Holds g st a w c) {i : Nat} (hi : lk i st.L = none) {arr : Array Value} {cs : List V} (ty : TypeId) (hcv : CVL c st.L arr.toList cs) :
    ∃ c', Holds g { st with L := (i, .box cs) :: st.L } a (w.alloc (.cells arr ty)) c' ∧ CV c' ((i, .box cs) :: st.L) (.pointer (some ⟨w.heap.size, 0, none⟩)) (.lp i 0) := by
  have hc : Cx.le c { c with bk := fun k => if k = i then some w.heap.size else c.bk k } st.L ((i, .box cs) :: st.L) := by
    refine ⟨.refl _, fun k hk => ?_, fun k b hk hb => ?_, fun k sz fz xs hk => ⟨rfl, fz, xs, rfl, ?_⟩⟩
    · rw [lk_cons]; split
      · rfl
      · exact hk
    · have : k ≠ i := fun e => by subst e; rw [hi] at hk; cases hk
      simp only [if_neg this]; exact hb
    · have : k ≠ i := fun e => by subst e; rw [hi] at hk; cases hk
      rw [lk_cons, if_neg (Ne.symm this)]; exact hk
  refine ⟨{ c with bk := fun k => if k = i then some w.heap.size else c.bk k }, ⟨h.defers, h.slots, ?_, ?_, ?_, ?_, h.mono, ?_, ?_, ?_, h.foot, h.old, ?_⟩, .lp (by rw [lk_cons, if_pos rfl]; rfl) (by simp)⟩
  · intro k x hk
    obtain ⟨v, hv, hcv⟩ := h.env k x hk
    exact ⟨v, hv, hcv.mono hc⟩
  · intro k o hk
    simp only at hk
    rw [lk_cons] at hk
    split at hk
    · rename_i e; subst e
      cases hk
      exact .box (by simp) (heap_alloc_new w _) (fun j => h.agr.out (Nat.le_refl _) j) (hcv.mono hc)
    · rename_i hne
      have hlo := h.loc k o hk
      exact hlo.keep hc (by simp [Ne.symm hne]) rfl fun b hb => ⟨heap_alloc_old w _ b (hlo.blk hb), fun _ => rfl⟩
  · exact h.heap.keep (.refl _) fun b hf => ⟨heap_alloc_old w _ b (h.inw b hf), fun _ => rfl⟩
  · intro b o v hv
    rw [World.cell?_alloc_old _ _ _ (Nat.ne_of_lt (h.agr.lt hv))]
    exact h.agr b o v hv
  · exact h.later.trans rfl rfl rfl (by simp) fun k hk _ => heap_alloc_old w _ k (Nat.lt_of_lt_of_le hk h.later.size)
  · intro j k b hj hk hbj hbk
    simp only at hj hk hbj hbk
    have old : ∀ {j}, (lk j ((i, LO.box cs) :: st.L)).isSome = true → j ≠ i → (lk j st.L).isSome = true := fun {j} hj hne => by rw [lk_cons, if_neg (Ne.symm hne)] at hj; exact hj
    have blk : ∀ {j}, (lk j ((i, LO.box cs) :: st.L)).isSome = true → j ≠ i → c.bk j = some b → b < w.heap.size := fun {j} hj hne hb => by
      obtain ⟨o, ho⟩ := Option.isSome_iff_exists.1 (old hj hne)
      exact (h.loc j o ho).blk hb
    by_cases ej : j = i
    · by_cases ek : k = i
      · rw [ej, ek]
      · rw [if_pos ej] at hbj
        rw [if_neg ek] at hbk
        cases hbj
        have := blk hk ek hbk
        omega
    · rw [if_neg ej] at hbj
      by_cases ek : k = i
      · rw [if_pos ek] at hbk
        cases hbk
        have := blk hj ej hbj
        omega
      · rw [if_neg ek] at hbk
        exact h.inj j k b (old hj ej) (old hk ek) hbj hbk
  · intro j b hj hb
    simp only at hj hb
    by_cases ej : j = i
    · rw [if_pos ej] at hb
      cases hb
      exact ⟨h.later.size, fun hf => by have := h.inw _ hf; omega⟩
    · rw [if_neg ej] at hb
      rw [lk_cons, if_neg (Ne.symm ej)] at hj
      exact h.fresh j b hj hb
  · intro b hf
    have := h.inw b hf
    simp only [World.size_alloc]
    omega

/-- One block's cells become others. -/
theorem setRow_other' (w : World) (g k : Nat) (cs : Array Value) (h : k ≠ g) : (w.setRow g cs).heap[k]? = w.heap[k]? := setRow_other w g k cs h

/-- A box's cells become others. -/
theorem Holds.setBox (h : Holds g st a w c) {i b : Nat} {cs cs' : List V} {arr arr' : Array Value} {ty : TypeId} (hi : lk i st.L = some (.box cs)) (hb : c.bk i = some b) (hh : w.heap[b]? = some (.cells arr ty (0, 0)))
    (hcv : CVL c st.L arr'.toList cs') : Holds g { st with L := upL i (.box cs') st.L } a (w.setRow b arr') c := by
  have hiS : (lk i st.L).isSome = true := by rw [hi]; rfl
  have hc : Cx.le c c st.L (upL i (.box cs') st.L) := by
    refine ⟨.refl _, fun k hk => ?_, fun _ _ _ e => e, fun k sz fz xs hk => ⟨rfl, fz, xs, rfl, ?_⟩⟩
    · rw [lk_upL]; split
      · rfl
      · exact hk
    · rw [lk_upL, if_neg]
      · exact hk
      · rintro ⟨rfl, _⟩; rw [hi] at hk; cases hk
  have hfr := h.fresh i b hiS hb
  have hmb : ∀ j, c.m b j = none := by
    cases h.loc i _ hi with
    | box hb' _ hm _ => rw [hb] at hb'; cases hb'; exact hm
  have key : ∀ {k}, (lk k (upL i (.box cs') st.L)).isSome = true → (lk k st.L).isSome = true := by
    intro k hk
    rw [lk_upL] at hk
    split at hk
    · rename_i e; rw [e.1]; exact hiS
    · exact hk
  refine ⟨h.defers, h.slots, ?_, ?_, ?_, ?_, h.mono, ?_, fun j k b hj hk => h.inj j k b (key hj) (key hk), fun j b hj => h.fresh j b (key hj), h.foot, h.old, ?_⟩
  · intro k x hk
    obtain ⟨v, hv, hcv⟩ := h.env k x hk
    exact ⟨v, hv, hcv.mono hc⟩
  · intro k o hk
    simp only at hk
    rw [lk_upL] at hk
    split at hk
    · rename_i e
      cases hk
      rw [e.1]
      exact .box hb (setRow_heap w b arr arr' ty _ hh) hmb (hcv.mono hc)
    · rename_i hne
      have hlo := h.loc k o hk
      have hki : k ≠ i := fun e => hne ⟨e, hiS⟩
      refine hlo.keep hc rfl rfl fun b' hb' => ⟨setRow_other w b b' arr' fun e => ?_, fun _ => rfl⟩
      subst e
      exact hki (h.inj k i b' (by rw [hk]; rfl) hiS hb' hb)
  · exact h.heap.keep (.refl _) fun b' hf => ⟨setRow_other w b b' arr' fun e => by subst e; exact hfr.2 hf, fun _ => rfl⟩
  · intro b' o v hv
    have hne : b' ≠ b := fun e => by subst e; rw [hmb] at hv; cases hv
    have := h.agr b' o v hv
    rw [World.cell?_of_block (a := ⟨b', o, none⟩) (w := w) (setRow_other w b b' arr' hne)]
    exact this
  · refine h.later.trans rfl rfl rfl (by simp) fun k hk hf => setRow_other w b k arr' fun e => ?_
    subst e
    have := hfr.1
    omega
  · intro b' hf
    rw [size_setRow]; exact h.inw b' hf

end
end Go.Ab
