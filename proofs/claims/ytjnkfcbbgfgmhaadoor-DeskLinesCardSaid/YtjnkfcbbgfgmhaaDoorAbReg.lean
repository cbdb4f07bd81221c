/- THE ABSTRACT LAYER, PART 8: a quiet operation under its guard; it hangs on what it looks at alone; many of them in any order. -/
import Derived.Test.YtjnkfcbbgfgmhaaDoorAbQ
set_option linter.unusedSimpArgs false
set_option linter.unusedVariables false
namespace Go.Ab
open Go

/-- The guard: is the operation carried out? none: it can't be told. -/
def gv (ops : Array Oper) (st : St) : Option (Nat × Bool) → Option Bool
  | none => some true
  | some (j, want) =>
    match (ops[j]?).bind (·.dst) with
    | some t =>
      match lk t st.env with
      | some (.d (.v (.bool b))) => some (b == want)
      | some (.g b' (.d (.v (.bool b)))) => some (b' && (b == want))
      | _ => none
    | none => none
def wrapG (o : Oper) (gb : Bool) (x : V) : V :=
  match o.guard with
  | none => x
  | some _ => .g gb x
def St.put (st : St) (d : Option Nat) (x : V) : St :=
  match d with
  | none => st
  | some t => { st with env := (t, x) :: st.env }
/-- An operation of a region: what must hold, what it gives, its value. -/
def qst (P : Program) (ops : Array Oper) (st : St) (o : Oper) : Prop × Prop × V :=
  match gv ops st o.guard with
  | some gb => ((gb = true → (qop P st gb o.dst o.op).side), (gb = true → (qop P st gb o.dst o.op).gain), wrapG o gb (qop P st gb o.dst o.op).val)
  | none => (False, True, .any)
/-- Quiet operations, in the text's order: what must hold, what they give, the state behind. -/
def qrun (P : Program) (ops : Array Oper) : List Oper → St → Prop × Prop × St
  | [], st => (True, True, st)
  | o :: r, st => ((qst P ops st o).1 ∧ (qrun P ops r (st.put o.dst (qst P ops st o).2.2)).1, (qst P ops st o).2.1 ∧ (qrun P ops r (st.put o.dst (qst P ops st o).2.2)).2.1,
    (qrun P ops r (st.put o.dst (qst P ops st o).2.2)).2.2)

def slotOk (n : Nat) (o : Oper) : Bool := match o.dst with | some d => decide (d < n) | none => true

theorem rd_congr {st : St} {e : List (Nat × V)} {x : Operand} (h : ∀ t, x = .tmp t → lk t e = lk t st.env) : rd { st with env := e } x = rd st x := by
  cases x with
  | tmp t => simp only [rd, h t rfl]
  | _ => rfl
theorem rdg_congr {st : St} {e : List (Nat × V)} {x : Operand} {gb : Bool} (h : ∀ t, x = .tmp t → lk t e = lk t st.env) : rdg gb { st with env := e } x = rdg gb st x := by
  simp only [rdg, rd_congr h]
theorem rdO_congr {st : St} {e : List (Nat × V)} {x : Option Operand} {gb : Bool} (h : ∀ t, x = some (.tmp t) → lk t e = lk t st.env) : rdO gb { st with env := e } x = rdO gb st x := by
  cases x with
  | none => rfl
  | some x => simp only [rdO, rdg_congr (x := x) fun t ht => h t (by rw [ht])]
theorem rdL_congr {st : St} {e : List (Nat × V)} {gb : Bool} : ∀ {l : List (Nat × Operand)}, (∀ t, ∀ p ∈ l, p.2 = .tmp t → lk t e = lk t st.env) → rdL gb { st with env := e } l = rdL gb st l
  | [], _ => rfl
  | (i, x) :: r, h => by
    simp only [rdL, rdg_congr (x := x) fun t ht => h t (i, x) (List.mem_cons_self ..) ht, rdL_congr (l := r) fun t p hp => h t p (List.mem_cons_of_mem _ hp)]
theorem rdA_congr {st : St} {e : List (Nat × V)} {gb : Bool} : ∀ {l : List Operand}, (∀ t, .tmp t ∈ l → lk t e = lk t st.env) → rdA gb { st with env := e } l = rdA gb st l
  | [], _ => rfl
  | x :: r, h => by
    simp only [rdA, rdg_congr (x := x) fun t ht => h t (by rw [ht]; exact List.mem_cons_self ..), rdA_congr (l := r) fun t hp => h t (List.mem_cons_of_mem _ hp)]
theorem qcall_congr {P : Program} {st : St} {e : List (Nat × V)} {gb : Bool} {dst : Option Nat} {cl : Call} (h : ∀ t, .tmp t ∈ cl.operands → lk t e = lk t st.env) : qcall P { st with env := e } gb dst cl = qcall P st gb dst cl := by
  unfold qcall
  split
  · rename_i x t h1 h2 h3
    have e1 : cl.args = #[x] := by apply Array.ext'; simpa using h2
    rw [rdg_congr (x := x) fun t ht => h t (by simp [Call.operands, h1, e1, ht])]
    rfl
  · rename_i f h1
    rw [rdA_congr (l := cl.args.toList) fun t ht => h t (by simp [Call.operands, h1]; simpa using ht)]
    rfl
  · rfl
theorem qop_congr {P : Program} {st : St} {e : List (Nat × V)} {gb : Bool} {dst : Option Nat} (op : Op) (h : ∀ t, .tmp t ∈ op.operands → lk t e = lk t st.env) : qop P { st with env := e } gb dst op = qop P st gb dst op := by
  cases op with
  | move x => simp only [qop, rdg_congr (x := x) fun t ht => h t (by simp [Op.operands, ht])]
  | assign x => simp only [qop, rdg_congr (x := x) fun t ht => h t (by simp [Op.operands, ht])]
  | pick c x y => simp only [qop, rdg_congr (x := c) fun t ht => h t (by simp [Op.operands, ht]), rd_congr (x := x) fun t ht => h t (by simp [Op.operands, ht]), rd_congr (x := y) fun t ht => h t (by simp [Op.operands, ht])]
  | binOp op t x y yt => simp only [qop, rdg_congr (x := x) fun t ht => h t (by simp [Op.operands, ht]), rdg_congr (x := y) fun t ht => h t (by simp [Op.operands, ht])]
  | unOp op t x => simp only [qop, rdg_congr (x := x) fun t ht => h t (by simp [Op.operands, ht])]
  | convert s d x => simp only [qop, rdg_congr (x := x) fun t ht => h t (by simp [Op.operands, ht])]
  | slice t x lo hi mx =>
    simp only [qop, rdg_congr (x := x) fun t ht => h t (by simp [Op.operands, ht]), rdO_congr (x := lo) fun t ht => h t (by simp [Op.operands, ht]),
      rdO_congr (x := hi) fun t ht => h t (by simp [Op.operands, ht]), rdO_congr (x := mx) fun t ht => h t (by simp [Op.operands, ht])]
  | fieldAddr t x f => simp only [qop, rdg_congr (x := x) fun t ht => h t (by simp [Op.operands, ht])]
  | field t x f => simp only [qop, rdg_congr (x := x) fun t ht => h t (by simp [Op.operands, ht])]
  | indexAddr t x i =>
    simp only [qop, rdg_congr (x := x) fun t ht => h t (by simp [Op.operands, ht]), rdg_congr (x := i) fun t ht => h t (by simp [Op.operands, ht])]
    rfl
  | index t x i => simp only [qop, rdg_congr (x := x) fun t ht => h t (by simp [Op.operands, ht]), rdg_congr (x := i) fun t ht => h t (by simp [Op.operands, ht])]
  | load t x =>
    simp only [qop, rdg_congr (x := x) fun t ht => h t (by simp [Op.operands, ht])]
    rfl
  | extract x i => simp only [qop, rdg_congr (x := x) fun t ht => h t (by simp [Op.operands, ht])]
  | build t ps => simp only [qop, rdL_congr (l := ps.toList) fun t p hp ht => h t (by simp only [Op.operands, List.mem_toArray, List.mem_map]; exact ⟨p, hp, ht⟩)]
  | buildSlice t n ps => simp only [qop, rdL_congr (l := ps.toList) fun t p hp ht => h t (by simp only [Op.operands, List.mem_toArray, List.mem_map]; exact ⟨p, hp, ht⟩)]
  | nilCheck x => simp only [qop, rdg_congr (x := x) fun t ht => h t (by simp [Op.operands, ht])]
  | lookup t x i ok =>
    simp only [qop, rdg_congr (x := x) fun t ht => h t (by simp [Op.operands, ht]), rdg_congr (x := i) fun t ht => h t (by simp [Op.operands, ht])]
    rfl
  | call cl => exact qcall_congr fun t ht => h t ht
  | _ => rfl

theorem gv_congr {ops : Array Oper} {st : St} {e : List (Nat × V)} {gd : Option (Nat × Bool)} (h : ∀ j w t, gd = some (j, w) → (ops[j]?).bind (·.dst) = some t → lk t e = lk t st.env) : gv ops { st with env := e } gd = gv ops st gd := by
  cases gd with
  | none => rfl
  | some p =>
    obtain ⟨j, want⟩ := p
    simp only [gv]
    cases ht : (ops[j]?).bind (·.dst) with
    | none => rfl
    | some t => simp only [h j want t rfl ht]
theorem qst_congr {P : Program} {ops : Array Oper} {st : St} {e : List (Nat × V)} {o : Oper} (h : ∀ t ∈ o.looksAt ops, lk t e = lk t st.env) : qst P ops { st with env := e } o = qst P ops st o := by
  have hg : gv ops { st with env := e } o.guard = gv ops st o.guard := gv_congr fun j want t hgd ht => h t (by
    unfold Oper.looksAt
    rw [hgd]
    exact List.mem_append_right _ (by simp [ht]))
  unfold qst
  rw [hg]
  cases gv ops st o.guard with
  | none => rfl
  | some gb =>
    simp only
    rw [qop_congr o.op fun t ht => h t (List.mem_append_left _ (List.mem_filterMap.2 ⟨.tmp t, by simpa using ht, rfl⟩))]

section
variable {g : Gx} {st : St} {a : Act} {w : World} {c : Cx} {ops : Array Oper}

theorem gv_ok (h : Holds g st a w c) {o : Oper} {gb : Bool} (hg : gv ops st o.guard = some gb) : Region.wanted o (yielded ops a.tmps) = gb := by
  unfold Region.wanted
  cases hgd : o.guard with
  | none => rw [hgd] at hg; simp [gv] at hg; simp [hg]
  | some p =>
    obtain ⟨j, want⟩ := p
    rw [hgd] at hg
    simp only [gv] at hg
    simp only [yielded]
    cases ht : (ops[j]?).bind (·.dst) with
    | none => simp [ht] at hg
    | some t =>
      simp only [ht] at hg
      cases hl : lk t st.env with
      | none => simp [hl] at hg
      | some y =>
        obtain ⟨v, hv, hc⟩ := h.env t y hl
        rw [hl] at hg
        simp only [Option.bind_some, hv]
        split at hg
        · rename_i b e
          cases e
          have := hc.bool; subst this
          cases hg
          cases b <;> cases want <;> rfl
        · rename_i b' b e
          cases e
          cases hg
          cases hc with
          | g r u =>
            cases b' with
            | true => have := (r rfl).bool; subst this; cases b <;> cases want <;> rfl
            | false => have := u rfl; subst this; rfl
        · cases hg

/-- One operation of a region, met in whatever order. -/
theorem qst_wp (h : Holds g st a w c) {i : Nat} {o : Oper} (hi : ops[i]? = some o) (hd : slotOk g.n o = true) (hs : (qst g.P ops st o).1) {Q : Exit → Act → World → Prop} {K : Act → World → Prop}
    (hK : ∀ a' w' c', Holds g (st.put o.dst (qst g.P ops st o).2.2) a' w' c' → (qst g.P ops st o).2.1 → K a' w') : wpOp g.P ops Q i K a w := by
  unfold wpOp
  simp only [hi]
  unfold qst at hs hK
  cases hg : gv ops st o.guard with
  | none => simp [hg] at hs
  | some gb =>
    rw [hg] at hs hK
    simp only at hs hK
    rw [gv_ok h hg]
    have putOk : ∀ {w' c' r x}, Holds g st a w' c' → CV c' st.L r x → Holds g (st.put o.dst x) (a.put o.dst r) w' c' := by
      intro w' c' r x hh hv
      cases hdst : o.dst with
      | none => exact hh
      | some d =>
        have : d < g.n := by simpa [slotOk, hdst] using hd
        exact hh.put this hv
    cases gb with
    | true =>
      simp only [if_true]
      refine .inl (qop_ok h rfl o (hs rfl) _ _ fun r w' c' hh hle hcv hgn => ?_)
      refine hK _ _ c' (putOk hh ?_) fun _ => hgn
      unfold wrapG
      split
      · exact hcv
      · exact .g (fun _ => hcv) (fun e => by cases e)
    | false =>
      simp only [Bool.false_eq_true, if_false]
      refine hK _ _ c (putOk h ?_) fun e => by cases e
      unfold wrapG
      split
      · rename_i hgd
        rw [hgd] at hg
        simp [gv] at hg
      · exact .g (fun e => by cases e) fun _ => rfl
end
end Go.Ab
