/- THE ABSTRACT LAYER, PART 9: a region that draws its order: quiet operations in any order, then a tail that is in order. -/
import Derived.Test.YtjnkfcbbgfgmhaaDoorAbReg
set_option linter.unusedSimpArgs false
set_option linter.unusedVariables false
namespace Go.Ab
open Go

def depsOf (ops : Array Oper) (i : Nat) : List Nat :=
  match ops[i]? with
  | some o => (o.after.toList.filter (Region.binds .any)).map (·.on)
  | none => []
/-- d must be carried out ahead of i. -/
inductive Bef (ops : Array Oper) : Nat → Nat → Prop
  | dep {d i} (h : d ∈ depsOf ops i) : Bef ops d i
  | tr {r d i} (h : d ∈ depsOf ops i) (hr : Bef ops r d) : Bef ops r i
def reachN (ops : Array Oper) : Nat → Nat → List Nat
  | 0, _ => []
  | fuel + 1, i => (depsOf ops i).flatMap fun d => d :: reachN ops fuel d
theorem reachN_bef {ops : Array Oper} : ∀ (fuel : Nat) {i r : Nat}, r ∈ reachN ops fuel i → Bef ops r i
  | 0, i, r, h => by simp [reachN] at h
  | fuel + 1, i, r, h => by
    simp only [reachN, List.mem_flatMap, List.mem_cons] at h
    obtain ⟨d, hd, rfl | h⟩ := h
    · exact .dep hd
    · exact .tr hd (reachN_bef fuel h)

def dstOf (ops : Array Oper) (i : Nat) : Option Nat := (ops[i]?).bind (·.dst)
/-- All that a call's order hangs on: computed once, by the kernel. rs: for each operation what must be ahead of it. -/
def rowsOf (ops : Array Oper) : List (List Nat) :=
  (List.range ops.size).foldl (fun acc i => acc ++ [(depsOf ops i).flatMap fun d => d :: acc.getD d []]) []
def orderOk (ops : Array Oper) (n : Nat) : Bool :=
  let rs := rowsOf ops
  (decide (n ≤ ops.size)) &&
  ((List.range ops.size).all fun i => (depsOf ops i).all fun d => decide (d < i)) &&
  ((List.range n).all fun j => (List.range n).all fun k => j == k ||
    (match dstOf ops k with
     | some t => (dstOf ops j != some t) && (match ops[j]? with | some o => !(o.looksAt ops).contains t || (decide (k < j) && (rs.getD j []).contains k) || (decide (j < k) && (rs.getD k []).contains j) | none => true)
     | none => true)) &&
  ((List.range ops.size).all fun j => decide (j < n) || ((List.range j).all fun i => (rs.getD j []).contains i))

theorem rowsOf_bef {ops : Array Oper} : ∀ j r, r ∈ (rowsOf ops).getD j [] → Bef ops r j := by
  have key : ∀ n, (((List.range n).foldl (fun acc i => acc ++ [(depsOf ops i).flatMap fun d => d :: acc.getD d []]) ([] : List (List Nat))).length = n) ∧
      ∀ j r, r ∈ ((List.range n).foldl (fun acc i => acc ++ [(depsOf ops i).flatMap fun d => d :: acc.getD d []]) ([] : List (List Nat))).getD j [] → Bef ops r j := by
    intro n
    induction n with
    | zero => exact ⟨rfl, fun j r h => by simp at h⟩
    | succ n ih =>
      rw [List.range_succ, List.foldl_append]
      simp only [List.foldl_cons, List.foldl_nil]
      obtain ⟨h1, h2⟩ := ih
      generalize (List.range n).foldl (fun acc i => acc ++ [(depsOf ops i).flatMap fun d => d :: acc.getD d []]) ([] : List (List Nat)) = acc at h1 h2
      refine ⟨by simp [h1], fun j r h => ?_⟩
      rw [List.getD_eq_getElem?_getD] at h
      by_cases hj : j < n
      · rw [List.getElem?_append_left (by omega)] at h
        exact h2 j r (by rw [List.getD_eq_getElem?_getD]; exact h)
      · by_cases he : j = n
        · subst he
          rw [List.getElem?_append_right (by omega), h1, Nat.sub_self] at h
          simp only [List.getElem?_cons_zero, Option.getD_some, List.mem_flatMap, List.mem_cons] at h
          obtain ⟨d, hd, rfl | h⟩ := h
          · exact .dep hd
          · exact .tr hd (h2 d r h)
        · rw [List.getElem?_append_right (by omega), List.getElem?_eq_none (by simp; omega)] at h
          simp at h
  exact (key ops.size).2

section
variable {g : Gx} {ops : Array Oper} {Q : Exit → Act → World → Prop} {n : Nat}

/-- The text's states. -/
def stAt (P : Program) (ops : Array Oper) (st : St) : Nat → St
  | 0 => st
  | i + 1 => match ops[i]? with
    | some o => (stAt P ops st i).put o.dst (qst P ops (stAt P ops st i) o).2.2
    | none => stAt P ops st i
def valAt (P : Program) (ops : Array Oper) (st : St) (i : Nat) : V :=
  match ops[i]? with
  | some o => (qst P ops (stAt P ops st i) o).2.2
  | none => .any
def envOf (P : Program) (ops : Array Oper) (st : St) : List Nat → List (Nat × V)
  | [] => st.env
  | j :: X => match dstOf ops j with
    | some d => (d, valAt P ops st j) :: envOf P ops st X
    | none => envOf P ops st X

theorem stAt_eq (P : Program) (st : St) (i : Nat) : stAt P ops st i = { st with env := (stAt P ops st i).env } := by
  induction i with
  | zero => rfl
  | succ i ih =>
    simp only [stAt]
    split
    · rename_i o ho
      cases hd : o.dst with
      | none => simp only [St.put]; exact ih
      | some d => simp only [St.put]; rw [ih]
    · exact ih

theorem stAt_no {P : Program} {st : St} {t : Nat} : ∀ (i : Nat), (∀ k, k < i → dstOf ops k ≠ some t) → lk t (stAt P ops st i).env = lk t st.env
  | 0, _ => rfl
  | i + 1, h => by
    have h0 := h i (by omega)
    have ih := stAt_no (P := P) (st := st) i fun k hk => h k (by omega)
    simp only [stAt]
    split
    · rename_i o ho
      cases hd : o.dst with
      | none => simp only [St.put]; exact ih
      | some d =>
        have : d ≠ t := fun e => h0 (by simp [dstOf, ho, hd, e])
        simp only [St.put, lk_cons, if_neg this]; exact ih
    · exact ih
theorem stAt_some {P : Program} {st : St} {t : Nat} (hd : ∀ j k, j < n → k < n → j ≠ k → dstOf ops j = some t → dstOf ops k ≠ some t) : ∀ (i : Nat), i ≤ n → ∀ k, k < i → dstOf ops k = some t → lk t (stAt P ops st i).env = some (valAt P ops st k)
  | 0, _, k, hk, _ => by omega
  | i + 1, hi, k, hk, ht => by
    by_cases e : k = i
    · subst e
      cases ho : ops[k]? with
      | none => simp [dstOf, ho] at ht
      | some o =>
        have hdst : o.dst = some t := by simpa [dstOf, ho] using ht
        simp only [stAt, ho, hdst, St.put, lk_cons, if_true, valAt]
    · have ih := stAt_some (P := P) (st := st) hd i (by omega) k (by omega) ht
      have hne := hd k i (by omega) (by omega) e ht
      simp only [stAt]
      split
      · rename_i o ho
        cases hdd : o.dst with
        | none => simp only [St.put]; exact ih
        | some d =>
          have : d ≠ t := fun e => hne (by simp [dstOf, ho, hdd, e])
          simp only [St.put, lk_cons, if_neg this]; exact ih
      · exact ih
theorem envOf_no {P : Program} {st : St} {t : Nat} : ∀ (X : List Nat), (∀ k ∈ X, dstOf ops k ≠ some t) → lk t (envOf P ops st X) = lk t st.env
  | [], _ => rfl
  | j :: X, h => by
    have ih := envOf_no (P := P) (st := st) X fun k hk => h k (List.mem_cons_of_mem _ hk)
    simp only [envOf]
    split
    · rename_i d hd
      have : d ≠ t := fun e => h j (List.mem_cons_self ..) (by rw [hd, e])
      rw [lk_cons, if_neg this]; exact ih
    · exact ih
theorem envOf_some {P : Program} {st : St} {t : Nat} (hd : ∀ j k, j < n → k < n → j ≠ k → dstOf ops j = some t → dstOf ops k ≠ some t) : ∀ (X : List Nat), (∀ k ∈ X, k < n) → ∀ k ∈ X, dstOf ops k = some t → lk t (envOf P ops st X) = some (valAt P ops st k)
  | [], _, k, hk, _ => by cases hk
  | j :: X, hX, k, hk, ht => by
    simp only [envOf]
    by_cases e : k = j
    · subst e
      rw [ht]
      simp only [lk_cons, if_true]
    · have hkX : k ∈ X := (List.mem_cons.1 hk).resolve_left e
      have ih := envOf_some (P := P) (st := st) hd X (fun k hk => hX k (List.mem_cons_of_mem _ hk)) k hkX ht
      split
      · rename_i d hdd
        have : d ≠ t := fun e' => hd k j (hX k hk) (hX j (List.mem_cons_self ..)) e ht (by rw [hdd, e'])
        rw [lk_cons, if_neg this]; exact ih
      · exact ih

theorem pigeon : ∀ (n : Nat) (X : List Nat), X.Nodup → (∀ i ∈ X, i < n) → X.length ≤ n
  | 0, [], _, _ => Nat.le_refl _
  | 0, x :: _, _, h => absurd (h x (List.mem_cons_self ..)) (by omega)
  | n + 1, X, hd, h => by
    by_cases hn : n ∈ X
    · have h1 := pigeon n (X.erase n) (hd.erase n) fun i hi => by
        have := (hd.mem_erase_iff).1 hi
        have := h i this.2
        omega
      rw [List.length_erase_of_mem hn] at h1
      omega
    · have := pigeon n X hd fun i hi => by
        have h1 := h i hi
        have : i ≠ n := fun e => hn (e ▸ hi)
        omega
      omega
theorem pigeon_all {n : Nat} {X : List Nat} (hd : X.Nodup) (h : ∀ i ∈ X, i < n) (hl : n ≤ X.length) (i : Nat) (hi : i < n) : i ∈ X := by
  apply Classical.byContradiction
  intro hx
  have := pigeon n (i :: X) (List.nodup_cons.2 ⟨hx, hd⟩) fun j hj => by
    rcases List.mem_cons.1 hj with rfl | hj
    · exact hi
    · exact h j hj
  simp at this
  omega

structure OrderOk (ops : Array Oper) (n : Nat) : Prop where
  le : n ≤ ops.size
  lt : ∀ i d, d ∈ depsOf ops i → d < i
  dist : ∀ t j k, j < n → k < n → j ≠ k → dstOf ops j = some t → dstOf ops k ≠ some t
  look : ∀ j k t o, j < n → k < n → j ≠ k → dstOf ops k = some t → ops[j]? = some o → t ∈ o.looksAt ops → (k < j ∧ Bef ops k j) ∨ (j < k ∧ Bef ops j k)
  tail : ∀ j, n ≤ j → j < ops.size → ∀ i, i < j → Bef ops i j

theorem orderOk_spec (h : orderOk ops n = true) : OrderOk ops n := by
  simp only [orderOk, Bool.and_eq_true, decide_eq_true_eq, List.all_eq_true, List.mem_range, Bool.or_eq_true, beq_iff_eq] at h
  obtain ⟨⟨⟨h0, h1⟩, h2⟩, h3⟩ := h
  refine ⟨h0, ?_, ?_, ?_, ?_⟩
  · intro i d hd
    by_cases hi : i < ops.size
    · exact h1 i hi d hd
    · simp [depsOf, Array.getElem?_eq_none (Nat.le_of_not_lt hi)] at hd
  · intro t j k hj hk hne ht
    have := (h2 k hk j hj).resolve_left (fun e => hne e.symm)
    rw [ht] at this
    simp only [Bool.and_eq_true, bne_iff_ne, ne_eq] at this
    exact this.1
  · intro j k t o hj hk hne ht ho hl
    have := (h2 j hj k hk).resolve_left hne
    rw [ht, ho] at this
    simp only [Bool.and_eq_true, Bool.or_eq_true, Bool.not_eq_true', decide_eq_true_eq] at this
    rcases this.2 with (h | h) | h
    · exfalso; have : (o.looksAt ops).contains t = true := List.contains_iff_mem.2 hl; rw [h] at this; cases this
    · exact .inl ⟨h.1, rowsOf_bef _ _ (List.contains_iff_mem.1 h.2)⟩
    · exact .inr ⟨h.1, rowsOf_bef _ _ (List.contains_iff_mem.1 h.2)⟩
  · intro j hn hj i hi
    have := (h3 j hj).resolve_left (by omega)
    exact rowsOf_bef _ _ (List.contains_iff_mem.1 (this i hi))

/-- What is listed: just the members of X. -/
structure Listed (ops : Array Oper) (listed : Array Bool) (X : List Nat) : Prop where
  size : listed.size = ops.size
  mem : ∀ i, i < ops.size → (listed[i]? = some true ↔ i ∈ X)
  lt : ∀ i ∈ X, i < ops.size
  closed : ∀ i ∈ X, ∀ d ∈ depsOf ops i, d ∈ X
theorem Listed.bef {listed : Array Bool} {X : List Nat} (h : Listed ops listed X) {r i : Nat} (hb : Bef ops r i) : i ∈ X → r ∈ X := by
  induction hb with
  | dep hd => exact fun hi => h.closed _ hi _ hd
  | tr hd _ ih => exact fun hi => ih (h.closed _ hi _ hd)
theorem Listed.ready {listed : Array Bool} {X : List Nat} (h : Listed ops listed X) {j : Nat} (hj : j ∈ Region.ready .any ops listed) : j < ops.size ∧ j ∉ X ∧ ∀ d ∈ depsOf ops j, d ∈ X := by
  obtain ⟨h1, o, ho, h2⟩ := mem_ready.1 hj
  have hlt : j < ops.size := (Array.getElem?_eq_some_iff.1 ho).1
  refine ⟨hlt, fun hx => ?_, fun d hd => ?_⟩
  · have := (h.mem j hlt).2 hx
    simp [this] at h1
  · simp only [depsOf, ho, List.mem_map, List.mem_filter] at hd
    obtain ⟨e, ⟨he, hb⟩, rfl⟩ := hd
    have h3 := h2 e (by simpa using he) hb
    have hel : e.on < listed.size := by
      rcases Nat.lt_or_ge e.on listed.size with h' | h'
      · exact h'
      · simp [Array.getElem?_eq_none h'] at h3
    refine (h.mem e.on (by rw [← h.size]; exact hel)).1 ?_
    rw [Array.getElem?_eq_getElem hel]
    have : listed[e.on] = true := by simpa [hel] using h3
    rw [this]
theorem Listed.push {listed : Array Bool} {X : List Nat} (h : Listed ops listed X) {j : Nat} (hj : j ∈ Region.ready .any ops listed) : Listed ops (listed.setIfInBounds j true) (j :: X) := by
  obtain ⟨h1, h2, h3⟩ := h.ready hj
  refine ⟨by simp [h.size], fun i hi => ?_, fun i hi => ?_, fun i hi d hd => ?_⟩
  · by_cases e : j = i
    · subst e
      simp [h.size, h1]
    · rw [Array.getElem?_setIfInBounds_ne e, List.mem_cons]
      constructor
      · exact fun hh => .inr ((h.mem i hi).1 hh)
      · rintro (rfl | hh)
        · exact absurd rfl e
        · exact (h.mem i hi).2 hh
  · rcases List.mem_cons.1 hi with rfl | hi
    · exact h1
    · exact h.lt i hi
  · rcases List.mem_cons.1 hi with rfl | hi
    · exact List.mem_cons_of_mem _ (h3 d hd)
    · exact List.mem_cons_of_mem _ (h.closed i hi d hd)
/-- Nothing ready: all is listed. -/
theorem Listed.all {listed : Array Bool} {X : List Nat} (ho : OrderOk ops n) (h : Listed ops listed X) (hr : Region.ready .any ops listed = []) : ∀ i, i < ops.size → i ∈ X := by
  intro i
  induction i using Nat.strongRecOn with
  | _ i ih =>
    intro hi
    apply Classical.byContradiction
    intro hx
    have : i ∈ Region.ready .any ops listed := mem_ready.2 ⟨by
        have := mt (h.mem i hi).1 hx
        have hil : i < listed.size := by rw [h.size]; exact hi
        rw [Array.getElem?_eq_getElem hil] at this
        simp only [Option.some.injEq, Bool.not_eq_true] at this
        simp [hil, this], ops[i], by simp [hi], fun e he hb => by
        have hd : e.on ∈ depsOf ops i := by
          simp only [depsOf, Array.getElem?_eq_getElem hi, List.mem_map, List.mem_filter]
          exact ⟨e, ⟨by simpa using he, hb⟩, rfl⟩
        have hlt := ho.lt i _ hd
        have hm := (h.mem e.on (by omega)).2 (ih _ hlt (by omega))
        simp [hm]⟩
    rw [hr] at this
    cases this

/-- The tail, in order. -/
theorem tail_any (ho : OrderOk ops n) : ∀ (fuel : Nat) (listed : Array Bool) (X : List Nat) (j : Nat) (a : Act) (w : World), Listed ops listed X → (∀ i, i < j ↔ i ∈ X) → n ≤ j → ops.size ≤ j + fuel →
    wpOps g.P ops Q (List.range' j (ops.size - j)) a w → wpAny g.P .any ops Q fuel listed a w := by
  intro fuel
  induction fuel with
  | zero =>
    intro listed X j a w hL hX hn hf h
    have e : ops.size - j = 0 := by omega
    rw [e] at h
    simp only [List.range'_zero, wpOps] at h
    refine ⟨?_, h⟩
    cases hr : Region.ready .any ops listed with
    | nil => rfl
    | cons x xs =>
      obtain ⟨h1, h2, _⟩ := hL.ready (j := x) (by rw [hr]; exact List.mem_cons_self ..)
      exact absurd ((hX x).1 (by omega)) h2
  | succ fuel ih =>
    intro listed X j a w hL hX hn hf h
    refine ⟨fun hr => ?_, fun i hi => ?_⟩
    · have hall := hL.all ho hr
      have hj : ops.size ≤ j := by
        rcases Nat.lt_or_ge j ops.size with h' | h'
        · have := (hX j).2 (hall j h'); omega
        · exact h'
      have e : ops.size - j = 0 := by omega
      rw [e] at h
      simpa [wpOps] using h
    · obtain ⟨h1, h2, h3⟩ := hL.ready hi
      have hij : j ≤ i := Nat.le_of_not_lt fun hlt => h2 ((hX i).1 hlt)
      have hie : i = j := by
        rcases Nat.eq_or_lt_of_le hij with e | e
        · exact e.symm
        · exfalso
          have hb := ho.tail i (by omega) h1 j e
          have : j ∈ X := by
            cases hb with
            | dep hd => exact h3 _ hd
            | tr hd hr => exact hL.bef hr (h3 _ hd)
          have := (hX j).2 this
          omega
      subst hie
      have e : ops.size - i = (ops.size - (i + 1)) + 1 := by omega
      rw [e, List.range'_succ, wpOps_cons] at h
      refine wpOp_mono (fun a' w' hh => ih _ (i :: X) (i + 1) a' w' (hL.push hi) (fun k => ?_) (by omega) (by omega) hh) h
      rw [List.mem_cons, ← hX k]
      omega

/-- QUIET OPERATIONS IN ANY ORDER, then the tail. -/
theorem quiet_any (ho : OrderOk ops n) {st : St} (hslot : ∀ i o, ops[i]? = some o → i < n → slotOk g.n o = true) (hside : ∀ i o, ops[i]? = some o → i < n → (qst g.P ops (stAt g.P ops st i) o).1)
    (hK : ∀ a w c, Holds g (stAt g.P ops st n) a w c → (∀ i o, ops[i]? = some o → i < n → (qst g.P ops (stAt g.P ops st i) o).2.1) → wpOps g.P ops Q (List.range' n (ops.size - n)) a w) :
    ∀ (fuel : Nat) (listed : Array Bool) (X : List Nat) (a : Act) (w : World) (c : Cx), Listed ops listed X → (∀ i ∈ X, i < n) → X.Nodup → ops.size ≤ X.length + fuel →
      (∀ i ∈ X, ∀ o, ops[i]? = some o → (qst g.P ops (stAt g.P ops st i) o).2.1) →
      Holds g { st with env := envOf g.P ops st X } a w c → wpAny g.P .any ops Q fuel listed a w := by
  -- when the first n are all listed
  have done : ∀ (fuel : Nat) (listed : Array Bool) (X : List Nat) (a : Act) (w : World) (c : Cx), Listed ops listed X → (∀ i ∈ X, i < n) → X.Nodup → ops.size ≤ X.length + fuel → (∀ i, i < n → i ∈ X) →
      (∀ i ∈ X, ∀ o, ops[i]? = some o → (qst g.P ops (stAt g.P ops st i) o).2.1) →
      Holds g { st with env := envOf g.P ops st X } a w c → wpAny g.P .any ops Q fuel listed a w := by
    intro fuel listed X a w c hL hX hnd hf hall hgn hh
    have hlen : X.length ≤ n := by
      exact pigeon n X hnd hX
    refine tail_any ho fuel listed X n a w hL (fun i => ⟨hall i, hX i⟩) (Nat.le_refl _) (by omega) (hK a w c ?_ fun i o hio hi => hgn i (hall i hi) o hio)
    rw [stAt_eq]
    refine hh.sub fun k x hk => .inr ?_
    show lk k (envOf g.P ops st X) = some x
    rw [← hk]
    by_cases hex : ∃ i, i < n ∧ dstOf ops i = some k
    · obtain ⟨i, hi, hd⟩ := hex
      rw [envOf_some (n := n) (fun j k => ho.dist _ j k) X hX i (hall i hi) hd, stAt_some (fun j k => ho.dist _ j k) n (Nat.le_refl _) i hi hd]
    · have hno : ∀ i, i < n → dstOf ops i ≠ some k := fun i hi hd => hex ⟨i, hi, hd⟩
      rw [envOf_no X fun i hi => hno i (hX i hi), stAt_no n hno]
  intro fuel
  induction fuel with
  | zero =>
    intro listed X a w c hL hX hnd hf hgn hh
    have hlen : X.length ≤ n := by
      exact pigeon n X hnd hX
    have hnn : n = ops.size := by have := ho.le; omega
    refine done 0 listed X a w c hL hX hnd hf (fun i hi => ?_) hgn hh
    exact pigeon_all hnd hX (by omega) i hi
  | succ fuel ih =>
    intro listed X a w c hL hX hnd hf hgn hh
    by_cases hall : ∀ i, i < n → i ∈ X
    · exact done (fuel + 1) listed X a w c hL hX hnd hf hall hgn hh
    · refine ⟨fun hr => absurd (fun i hi => hL.all ho hr i (Nat.lt_of_lt_of_le hi ho.le)) hall, fun j hj => ?_⟩
      obtain ⟨h1, h2, h3⟩ := hL.ready hj
      have hjn : j < n := by
        apply Classical.byContradiction
        intro hge
        apply hall
        intro i hi
        have hb := ho.tail j (by omega) h1 i (by omega)
        cases hb with
        | dep hd => exact h3 _ hd
        | tr hd hr => exact hL.bef hr (h3 _ hd)
      have hoj : ops[j]? = some ops[j] := by simp [h1]
      generalize ops[j] = o at hoj
      -- what j looks at is as in the text's order
      have hsame : qst g.P ops { st with env := envOf g.P ops st X } o = qst g.P ops (stAt g.P ops st j) o := by
        rw [stAt_eq]
        refine qst_congr (st := { st with env := (stAt g.P ops st j).env }) (e := envOf g.P ops st X) fun t ht => ?_
        show lk t (envOf g.P ops st X) = lk t (stAt g.P ops st j).env
        by_cases hex : ∃ i, i < n ∧ i ≠ j ∧ dstOf ops i = some t
        · obtain ⟨i, hi, hne, hd⟩ := hex
          rcases ho.look j i t o hjn hi (Ne.symm hne) hd hoj ht with ⟨hlt, hb⟩ | ⟨hlt, hb⟩
          · have hiX : i ∈ X := by
              cases hb with
              | dep hd => exact h3 _ hd
              | tr hd hr => exact hL.bef hr (h3 _ hd)
            rw [envOf_some (n := n) (fun j k => ho.dist _ j k) X hX i hiX hd, stAt_some (n := n) (fun j k => ho.dist _ j k) j (by omega) i hlt hd]
          · have hiX : i ∉ X := fun hx => h2 (hL.bef hb hx)
            rw [envOf_no X fun k hk e => ?_, stAt_no j fun k hk e => ?_]
            · have hki : k ≠ i := by omega
              exact ho.dist t k i (by omega) hi hki e hd
            · have hki : k ≠ i := fun e' => hiX (e' ▸ hk)
              exact ho.dist t k i (hX k hk) hi hki e hd
        · have hno : ∀ i, i < n → i ≠ j → dstOf ops i ≠ some t := fun i hi hne hd => hex ⟨i, hi, hne, hd⟩
          rw [envOf_no X fun k hk => hno k (hX k hk) (fun e => h2 (e ▸ hk)), stAt_no j fun k hk => hno k (by omega) (by omega)]
      refine qst_wp hh hoj (hslot j o hoj hjn) (by rw [hsame]; exact hside j o hoj hjn) fun a' w' c' hh' hgn' => ?_
      rw [hsame] at hh' hgn'
      refine ih _ (j :: X) a' w' c' (hL.push hj) (fun i hi => ?_) (List.nodup_cons.2 ⟨h2, hnd⟩) (by simp; omega) (fun i hi o' ho' => ?_) ?_
      · rcases List.mem_cons.1 hi with rfl | hi
        · exact hjn
        · exact hX i hi
      · rcases List.mem_cons.1 hi with rfl | hi
        · rw [hoj] at ho'; cases ho'; exact hgn'
        · exact hgn i hi o' ho'
      · have e1 : valAt g.P ops st j = (qst g.P ops (stAt g.P ops st j) o).2.2 := by simp only [valAt, hoj]
        have e2 : dstOf ops j = o.dst := by simp [dstOf, hoj]
        simp only [envOf, e2]
        cases hd : o.dst with
        | none => rw [hd] at hh'; exact hh'
        | some d => rw [hd] at hh'; rw [e1]; exact hh'
end
end Go.Ab
