/- THE ABSTRACT LAYER, PART 7: 'qop', all quiet operations in one. -/
import Derived.Test.YtjnkfcbbgfgmhaaDoorAbSpec
set_option linter.unusedSimpArgs false
set_option linter.unusedVariables false
namespace Go.Ab
open Go

def Q.on (p : Prop) (q : Q) : Q := ⟨p ∧ q.side, q.gain, q.val⟩
def rdL (gb : Bool) (st : St) : List (Nat × Operand) → Prop × List (Nat × V)
  | [] => (True, [])
  | (i, x) :: r => ((rdg gb st x).1 ∧ (rdL gb st r).1, (i, (rdg gb st x).2) :: (rdL gb st r).2)
def rdO (gb : Bool) (st : St) : Option Operand → Prop × Option V
  | none => (True, none)
  | some x => ((rdg gb st x).1, some (rdg gb st x).2)
def qnil (x : V) : Q :=
  match x with
  | .d (.v (.pointer (some a))) => .ok (.d (.v (.pointer (some a))))
  | .lp i o => .ok (.lp i o)
  | .pe cs => .ok (.pe cs)
  | .re i k o => .ok (.re i k o)
  | _ => .no
def rdA (gb : Bool) (st : St) : List Operand → Prop × List V
  | [] => (True, [])
  | x :: r => ((rdg gb st x).1 ∧ (rdA gb st r).1, (rdg gb st x).2 :: (rdA gb st r).2)
def qspec (P : Program) (st : St) (f : FuncId) (ds : Option (List D)) (rs : Option (List D)) : Q :=
  match ds, rs with
  | some ds, some rs => ⟨Spec P f ds st.H (Ret rs st.H), True, retV rs⟩
  | _, _ => .no
def qcall (P : Program) (st : St) (gb : Bool) (dst : Option Nat) (cl : Call) : Q :=
  match cl.callee, cl.args.toList, cl.argTypes.toList with
  | .builtin .len, [x], [t] => .on (rdg gb st x).1 (qlen P st t (rdg gb st x).2)
  | .value (.func f), xs, _ => .on (rdA gb st xs).1 (qspec P st f (toDs st.L (rdA gb st xs).2) (dst.bind fun d => lk d st.O))
  | _, _, _ => .no
def qop (P : Program) (st : St) (gb : Bool) (dst : Option Nat) : Op → Q
  | .move x => ⟨(rdg gb st x).1, True, (rdg gb st x).2⟩
  | .assign x => ⟨(rdg gb st x).1, True, (rdg gb st x).2⟩
  | .pick c a b => .on (rdg gb st c).1 (qpick (rdg gb st c).2 (rd st a) (rd st b))
  | .binOp op t x y _ => .on ((rdg gb st x).1 ∧ (rdg gb st y).1) (qbinN (isC x || isC y) (tk P t) (eqTy P t) op (rdg gb st x).2 (rdg gb st y).2)
  | .unOp op _ x => .on (rdg gb st x).1 (qun op (rdg gb st x).2)
  | .convert s d x => .on (rdg gb st x).1 (qconv P s d (rdg gb st x).2)
  | .slice t x lo hi mx => .on ((rdg gb st x).1 ∧ (rdO gb st lo).1 ∧ (rdO gb st hi).1 ∧ (rdO gb st mx).1) (qsl P t (rdg gb st x).2 (rdO gb st lo).2 (rdO gb st hi).2 (rdO gb st mx).2)
  | .fieldAddr t x f => .on (rdg gb st x).1 (qfa P t (rdg gb st x).2 f)
  | .field t x f => .on (rdg gb st x).1 (qf P t (rdg gb st x).2 f)
  | .indexAddr t x i => .on ((rdg gb st x).1 ∧ (rdg gb st i).1) (qidxA P st t (rdg gb st x).2 (rdg gb st i).2)
  | .index t x i => .on ((rdg gb st x).1 ∧ (rdg gb st i).1) (qidx P t (rdg gb st x).2 (rdg gb st i).2)
  | .load t x => .on (rdg gb st x).1 (qld P st t (rdg gb st x).2)
  | .extract x i => .on (rdg gb st x).1 (qext (rdg gb st x).2 i)
  | .build t ps => .on (rdL gb st ps.toList).1 (qbuild P t (rdL gb st ps.toList).2)
  | .buildSlice t n ps => .on (rdL gb st ps.toList).1 (qbs P t n (rdL gb st ps.toList).2)
  | .nilCheck x => .on (rdg gb st x).1 (qnil (rdg gb st x).2)
  | .lookup t x i ok => .on ((rdg gb st x).1 ∧ (rdg gb st i).1) (qlk P st t (rdg gb st x).2 (rdg gb st i).2 ok)
  | .call cl => qcall P st gb dst cl
  | _ => .no

section
variable {g : Gx} {st : St} {a : Act} {w : World} {c : Cx} {gb : Bool}

theorem rdL_keys (l : List (Nat × Operand)) : (l.map fun (i, x) => (i, a.eval x)).map (·.1) = ((rdL gb st l).2).map (·.1) := by
  induction l with
  | nil => rfl
  | cons p r ih => obtain ⟨i, x⟩ := p; simp only [List.map_cons, rdL]; rw [← ih]
theorem rdL_ok (h : Holds g st a w c) (hg : gb = true) : ∀ (l : List (Nat × Operand)), (rdL gb st l).1 →
    ∀ (j : Nat) (p : Nat × Value) (q : Nat × V), (l.map fun (i, x) => (i, a.eval x))[j]? = some p → (rdL gb st l).2[j]? = some q → CV c st.L p.2 q.2
  | [], _, j, p, q, hp, _ => by simp at hp
  | (i, x) :: r, hs, 0, p, q, hp, hq => by
    simp only [List.map_cons, List.getElem?_cons_zero, Option.some.injEq] at hp
    simp only [rdL, List.getElem?_cons_zero, Option.some.injEq] at hq
    subst hp hq
    exact rdg_ok h x hg hs.1
  | (i, x) :: r, hs, j + 1, p, q, hp, hq => by
    simp only [List.map_cons, List.getElem?_cons_succ] at hp
    simp only [rdL, List.getElem?_cons_succ] at hq
    exact rdL_ok h hg r hs.2 j p q hp hq
theorem rdO_some (o : Option Operand) : (rdO gb st o).2.isSome = (o.map a.eval).isSome := by cases o <;> rfl
theorem rdO_ok (h : Holds g st a w c) (hg : gb = true) (o : Option Operand) (hs : (rdO gb st o).1) (y : V) (u : Value) (hy : (rdO gb st o).2 = some y) (hu : o.map a.eval = some u) : CV c st.L u y := by
  cases o with
  | none => simp at hu
  | some x =>
    simp only [rdO, Option.some.injEq] at hy
    simp only [Option.map_some, Option.some.injEq] at hu
    subst hy hu
    exact rdg_ok h x hg hs

/-- What a quiet operation does. -/
def Does (g : Gx) (st : St) (a : Act) (w : World) (c : Cx) (o : Oper) (q : Q) : Prop :=
  ∃ r w' c', (execOp a.eval o).run g.P w = .ok (.value r) w' ∧ Holds g st a w' c' ∧ Cx.le c c' st.L st.L ∧ CV c' st.L r q.val ∧ q.gain

theorem Does.same (h : Holds g st a w c) {o : Oper} {q : Q} {r : Value} (hr : (execOp a.eval o).run g.P w = .ok (.value r) w) (hc : CV c st.L r q.val) (hgain : q.gain) : Does g st a w c o q :=
  ⟨r, w, c, hr, h, .refl _ _, hc, hgain⟩

theorem rdA_len (l : List Operand) : (rdA gb st l).2.length = l.length := by
  induction l with
  | nil => rfl
  | cons x r ih => simp [rdA, ih]
theorem rdA_ok (h : Holds g st a w c) (hg : gb = true) : ∀ (l : List Operand), (rdA gb st l).1 →
    ∀ (j : Nat) (v : Value) (x : V), (l.map a.eval)[j]? = some v → (rdA gb st l).2[j]? = some x → CV c st.L v x
  | [], _, j, p, q, hp, _ => by simp at hp
  | x :: r, hs, 0, p, q, hp, hq => by
    simp only [List.map_cons, List.getElem?_cons_zero, Option.some.injEq] at hp
    simp only [rdA, List.getElem?_cons_zero, Option.some.injEq] at hq
    subst hp hq
    exact rdg_ok h x hg hs.1
  | x :: r, hs, j + 1, p, q, hp, hq => by
    simp only [List.map_cons, List.getElem?_cons_succ] at hp
    simp only [rdA, List.getElem?_cons_succ] at hq
    exact rdA_ok h hg r hs.2 j p q hp hq

/-- An operation comes to a value, in whatever continues it. -/
def DoesK (g : Gx) (st : St) (a : Act) (w : World) (c : Cx) (o : Oper) (q : Q) : Prop :=
  ∀ (K : Act → World → Prop) (Q : Exit → Act → World → Prop), (∀ r w' c', Holds g st a w' c' → Cx.le c c' st.L st.L → CV c' st.L r q.val → q.gain → K (a.put o.dst r) w') → o.wp g.P a w K Q
theorem Does.k {o : Oper} {q : Q} (h : Does g st a w c o q) : DoesK g st a w c o q := by
  intro K Q hK
  obtain ⟨r, w', c', hr, hh, hle, hcv, hgn⟩ := h
  unfold Oper.wp
  rw [hr]
  exact hK r w' c' hh hle hcv hgn

theorem qcall_ok (h : Holds g st a w c) (hg : gb = true) {o : Oper} {cl : Call} (ho : o.op = .call cl) (hs : (qcall g.P st gb o.dst cl).side) : DoesK g st a w c o (qcall g.P st gb o.dst cl) := by
  unfold qcall at hs ⊢
  split at hs
  · rename_i x t h1 h2 h3
    have hx := rdg_ok h x hg hs.1
    obtain ⟨r, hrun, hcv, hgn⟩ := qlen_ok h (ty := o.type) hx hs.2
    have e1 : cl.args = #[x] := by apply Array.ext'; simpa using h2
    have e2 : cl.argTypes = #[t] := by apply Array.ext'; simpa using h3
    refine (Does.same h (r := r) ?_ hcv hgn).k
    simp only [execOp, ho, resolve, h1, e1, e2, invoke, builtin, Sem.run_bind, Sem.run_pure, Result.andThen_ok, List.map_toArray, List.map_cons, List.map_nil, hrun]
  · rename_i f h1
    obtain ⟨hs1, hs2⟩ := hs
    unfold qspec at hs2 ⊢
    split at hs2
    · rename_i ds rs hds hrs
      intro K QQ hK
      have hv : ReadsA c.m (cl.args.map a.eval).toList ds := by
        rw [Array.toList_map]
        exact toDs_ok h (by rw [List.length_map, rdA_len]) (rdA_ok h hg _ hs1) hds
      have hrun : (execOp a.eval o).run g.P w = .ok (.enter f (cl.args.map a.eval)) w := by
        simp only [execOp, ho, resolve, h1, Act.eval, Deferred.ofValue, invoke, Sem.run_bind, Sem.run_pure, Result.andThen_ok, callFunc_run hs2.1, Array.append_empty, Array.empty_append]
      unfold Oper.wp
      rw [hrun]
      refine (h.call hs2 hv).mono ?_
      rintro e w' ⟨v, c', _, _, rfl, ⟨rfl, rfl⟩, hh, hle, hcv⟩
      simp only [Q.on, hds, hrs] at hK
      exact hK v w' c' hh hle hcv trivial
    · exact hs2.elim
  · exact hs.elim

theorem gain_qbin (k l op x y) : (qbin k l op x y).gain := by
  unfold qbin
  split
  · split
    · simp [qshift]
    · simp [qshift]
    · trivial
  · unfold qstr; split <;> simp [Q.ok, Q.no]
  · split <;> simp [Q.no]
  · (repeat' split) <;> simp [Q.no]
  · simp [Q.no]
theorem gain_qbinN (cb k l op x y) : (qbinN cb k l op x y).gain := by
  unfold qbinN
  split
  · split <;> simp [Q.ok, Q.no]
  · exact gain_qbin ..
theorem gain_qlk (P st t x i ok) : (qlk P st t x i ok).gain := by unfold qlk; (repeat' split) <;> simp [Q.no]
theorem gain_qun (op x) : (qun op x).gain := by unfold qun; split <;> simp [Q.ok, Q.no]
theorem gain_qconv (P s d x) : (qconv P s d x).gain := by unfold qconv; (repeat' split) <;> simp [Q.ok, Q.no]
theorem gain_qsl (P t x l h m) : (qsl P t x l h m).gain := by unfold qsl; split <;> simp [Q.ok, Q.no]
theorem gain_qfa (P t x f) : (qfa P t x f).gain := by unfold qfa; split <;> simp [Q.no]
theorem gain_qf (P t x f) : (qf P t x f).gain := by unfold qf; split <;> (try split) <;> simp [Q.no]
theorem gain_qidxA (P st t x i) : (qidxA P st t x i).gain := by unfold qidxA; split <;> (try split) <;> simp [Q.no]
theorem gain_qidx (P t x i) : (qidx P t x i).gain := by unfold qidx; split <;> (try split) <;> simp [Q.no]
theorem gain_qld (P st t x) : (qld P st t x).gain := by unfold qld; (repeat' split) <;> simp [Q.ok, Q.no]
theorem gain_qext (x i) : (qext x i).gain := by unfold qext; (repeat' split) <;> simp [Q.ok, Q.no]
theorem gain_qpick (c x y) : (qpick c x y).gain := by unfold qpick; (repeat' split) <;> simp [Q.ok, Q.no]
theorem gain_qbuild (P t ps) : (qbuild P t ps).gain := by unfold qbuild; (repeat' split) <;> simp [Q.ok, Q.no]
theorem gain_qbs (P t n ps) : (qbs P t n ps).gain := by unfold qbs; (repeat' split) <;> simp [Q.no]

theorem qop_ok (h : Holds g st a w c) (hg : gb = true) (o : Oper) (hs : (qop g.P st gb o.dst o.op).side) : DoesK g st a w c o (qop g.P st gb o.dst o.op) := by
  cases ho : o.op with
  | move x => rw [ho] at hs; exact (Does.same h (by simp only [execOp, ho]; rfl) (rdg_ok h x hg hs) trivial).k
  | assign x => rw [ho] at hs; exact (Does.same h (by simp only [execOp, ho]; rfl) (rdg_ok h x hg hs) trivial).k
  | pick cd x y =>
    rw [ho] at hs
    obtain ⟨t, h1, h2⟩ := qpick_ok (rdg_ok h cd hg hs.1) (rd_ok h x) (rd_ok h y) hs.2
    exact (Does.same h (by simp only [execOp, ho, Sem.run_bind, h1, Sem.run_pure, Result.andThen_ok]) h2 (gain_qpick ..)).k
  | binOp op t x y yt =>
    rw [ho] at hs
    obtain ⟨r, h1, h2⟩ := qbinN_ok (w := w) (rdg_ok h x hg hs.1.1) (rdg_ok h y hg hs.1.2) t x y hs.2
    exact (Does.same h (by simp only [execOp, ho, Sem.run_bind] at h1 ⊢; rw [h1]; rfl) h2 (gain_qbinN ..)).k
  | unOp op t x =>
    rw [ho] at hs
    obtain ⟨r, h1, h2⟩ := qun_ok (P := g.P) (w := w) (rdg_ok h x hg hs.1) hs.2
    exact (Does.same h (by simp only [execOp, ho, Sem.run_bind, h1]; rfl) h2 (gain_qun ..)).k
  | convert s d x =>
    rw [ho] at hs
    obtain ⟨r, h1, h2⟩ := qconv_ok h (rdg_ok h x hg hs.1) hs.2
    exact (Does.same h (by simp only [execOp, ho, Sem.run_bind, h1]; rfl) h2 (gain_qconv ..)).k
  | slice t x lo hi mx =>
    rw [ho] at hs
    obtain ⟨⟨s1, s2, s3, s4⟩, hs⟩ := hs
    obtain ⟨r, h1, h2⟩ := qsl_ok (P := g.P) (w := w) (rdg_ok h x hg s1) (rdO_some (a := a) lo) (rdO_ok h hg lo s2) (rdO_some hi) (rdO_ok h hg hi s3) (rdO_some mx) (rdO_ok h hg mx s4) hs
    exact (Does.same h (by simp only [execOp, ho, Sem.run_bind, h1]; rfl) h2 (gain_qsl ..)).k
  | fieldAddr t x f =>
    rw [ho] at hs
    obtain ⟨r, h1, h2⟩ := qfa_ok (w := w) (rdg_ok h x hg hs.1) hs.2
    exact (Does.same h (by simp only [execOp, ho, Sem.run_bind, h1]; rfl) h2 (gain_qfa ..)).k
  | field t x f =>
    rw [ho] at hs
    obtain ⟨r, h1, h2⟩ := qf_ok (w := w) (rdg_ok h x hg hs.1) hs.2
    exact (Does.same h (by simp only [execOp, ho, Sem.run_bind, h1]; rfl) h2 (gain_qf ..)).k
  | indexAddr t x i =>
    rw [ho] at hs
    obtain ⟨r, h1, h2⟩ := qidxA_ok h (rdg_ok h x hg hs.1.1) (rdg_ok h i hg hs.1.2) hs.2
    exact (Does.same h (by simp only [execOp, ho, Sem.run_bind, h1]; rfl) h2 (gain_qidxA ..)).k
  | index t x i =>
    rw [ho] at hs
    obtain ⟨r, h1, h2⟩ := qidx_ok (w := w) (rdg_ok h x hg hs.1.1) (rdg_ok h i hg hs.1.2) hs.2
    exact (Does.same h (by simp only [execOp, ho, Sem.run_bind, h1]; rfl) h2 (gain_qidx ..)).k
  | load t x =>
    rw [ho] at hs
    obtain ⟨r, h1, h2⟩ := qld_ok h (rdg_ok h x hg hs.1) hs.2
    exact (Does.same h (by simp only [execOp, ho, Sem.run_bind, h1]; rfl) h2 (gain_qld ..)).k
  | extract x i =>
    rw [ho] at hs
    obtain ⟨r, h1, h2⟩ := qext_ok (P := g.P) (w := w) (rdg_ok h x hg hs.1) hs.2
    exact (Does.same h (by simp only [execOp, ho, Sem.run_bind, h1]; rfl) h2 (gain_qext ..)).k
  | build t ps =>
    rw [ho] at hs
    obtain ⟨r, h1, h2⟩ := qbuild_ok h _ _ (rdL_keys (a := a) ps.toList) (rdL_ok h hg ps.toList hs.1) hs.2
    refine (Does.same h (r := r) ?_ h2 (gain_qbuild ..)).k
    have e : (ps.map fun x => (x.1, a.eval x.2)) = (ps.toList.map fun (i, x) => (i, a.eval x)).toArray := by apply Array.ext'; simp
    simp only [execOp, ho, Sem.run_bind]
    rw [e, h1]; rfl
  | buildSlice t n ps =>
    rw [ho] at hs
    obtain ⟨r, w', c', h1, h2, h3, h4⟩ := qbs_ok h _ _ (rdL_keys (a := a) ps.toList) (rdL_ok h hg ps.toList hs.1) hs.2
    refine Does.k ⟨r, w', c', ?_, h2, h3, h4, gain_qbs ..⟩
    have e : (ps.map fun x => (x.1, a.eval x.2)) = (ps.toList.map fun (i, x) => (i, a.eval x)).toArray := by apply Array.ext'; simp
    simp only [execOp, ho, Sem.run_bind]
    rw [e, h1]; rfl
  | nilCheck x =>
    rw [ho] at hs
    have hx := rdg_ok h x hg hs.1
    have hn := hs.2
    simp only [qop, Q.on]
    generalize (rdg gb st x).2 = y at hx hn ⊢
    have key : (execOp a.eval o).run g.P w = .ok (.value (a.eval x)) w := by
      unfold qnil at hn
      generalize hxx : a.eval x = v at hx
      split at hn
      · cases hx with | d hr => cases hr; simp only [execOp, ho, hxx]; rfl
      · cases hx; simp only [execOp, ho, hxx]; rfl
      · cases hx; simp only [execOp, ho, hxx]; rfl
      · cases hx; simp only [execOp, ho, hxx]; rfl
      · exact hn.elim
    refine (Does.same h key ?_ ?_).k
    · unfold qnil at hn ⊢
      split at hn <;> first | exact hn.elim | exact hx
    · unfold qnil at hn ⊢
      split at hn <;> first | exact hn.elim | trivial
  | lookup t x i ok =>
    rw [ho] at hs
    obtain ⟨r, h1, h2⟩ := qlk_ok h (rdg_ok h x hg hs.1.1) (rdg_ok h i hg hs.1.2) hs.2
    exact (Does.same h (by simp only [execOp, ho, Sem.run_bind, h1]; rfl) h2 (gain_qlk ..)).k
  | call cl => rw [ho] at hs; exact qcall_ok h hg ho hs
  | _ => rw [ho] at hs; exact hs.elim
end
end Go.Ab
