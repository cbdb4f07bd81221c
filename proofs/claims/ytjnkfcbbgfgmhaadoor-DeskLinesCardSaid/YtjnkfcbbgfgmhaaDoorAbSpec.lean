/- THE ABSTRACT LAYER: a function's contract ('Spec'), and a call by it. -/
import Derived.Test.YtjnkfcbbgfgmhaaDoorAbKeep
set_option linter.unusedSimpArgs false
set_option linter.unusedVariables false
namespace Go.Ab
open Go

/-- What a call answers. -/
inductive Rets (m : Mem) : Value → List D → Prop
  | one {v d} (h : Reads m v d) : Rets m v [d]
  | none : Rets m (.tuple #[]) []
  | more {vs : Array Value} {a b ds} (h : ReadsA m vs.toList (a :: b :: ds)) : Rets m (.tuple vs) (a :: b :: ds)
/-- A function with a Go body. -/
def hasBody (P : Program) (f : FuncId) : Bool :=
  match P.funcs[f]? with
  | some fn => fn.body.isSome && !(fn.name == "runtime.NumGoroutine")
  | none => false

/-- CALLED with data ds over the heap objects H, function f answers data rs and leaves H' of which Q holds; all else that was there is as it was. -/
def Spec (P : Program) (f : FuncId) (ds : List D) (H : Hp) (Q : List D → Hp → Prop) : Prop :=
  hasBody P f = true ∧ ∀ (m : Mem) (F : Nat → Prop) (w : World) (vs : Array Value), Glob P F w → Agrees m w → HpOk m w F H → (∀ b, F b → b < w.heap.size) → ReadsA m vs.toList ds →
    Calls P f vs w fun e w' => ∃ v m' F' rs H', e = .returned v ∧ Q rs H' ∧ Rets m' v rs ∧ HpOk m' w' F' H' ∧ Agrees m' w' ∧ Mem.le m m' ∧ Later F w w' ∧
      (∀ b, F' b → F b ∨ w.heap.size ≤ b) ∧ (∀ b, F' b → b < w'.heap.size) ∧ ∀ b, b < w.heap.size → ¬ F b → m' b = m b
/-- Just this answer, and just this heap. -/
def Ret (rs : List D) (H : Hp) : List D → Hp → Prop := fun r h => r = rs ∧ h = H
theorem Spec.mono {P : Program} {f : FuncId} {ds : List D} {H : Hp} {Q Q' : List D → Hp → Prop} (h : Spec P f ds H Q) (hq : ∀ rs H', Q rs H' → Q' rs H') : Spec P f ds H Q' :=
  ⟨h.1, fun m F w vs g1 a1 a2 a3 a4 => (h.2 m F w vs g1 a1 a2 a3 a4).mono fun e w' ⟨v, m', F', rs, H', h1, h2, h3⟩ => ⟨v, m', F', rs, H', h1, hq _ _ h2, h3⟩⟩

mutual
def V.toD (L : List (Nat × LO)) : V → Option D
  | .d x => some x
  | .row i => match lk i L with | some (.row sz true xs) => some (.sl sz false xs) | _ => none
  | .agg cs => match toDs L cs with | some ds => some (.agg ds) | none => none
  | _ => none
def toDs (L : List (Nat × LO)) : List V → Option (List D)
  | [] => some []
  | x :: r => match x.toD L, toDs L r with | some d, some ds => some (d :: ds) | _, _ => none
end
/-- What a call's answer is in a slot. -/
def retV : List D → V
  | [] => .tup []
  | [d] => .d d
  | a :: b :: r => .tup (.d a :: .d b :: r.map V.d)

section
variable {g : Gx} {st : St} {a : Act} {w : World} {c : Cx}

mutual
theorem toD_ok (h : Holds g st a w c) : ∀ {v : Value} {x : V} {d : D}, CV c st.L v x → x.toD st.L = some d → Reads c.m v d
  | v, .d y, d, hv, hd => by simp only [V.toD, Option.some.injEq] at hd; subst hd; cases hv with | d r => exact r
  | v, .row i, d, hv, hd => by
    simp only [V.toD] at hd
    split at hd
    · rename_i sz xs hl
      cases hd
      generalize hx : V.row i = y at hv
      cases hv <;> cases hx
      cases h.loc i _ hl with
      | nil hv hb => rw [hv]; exact .nil
      | row hz hv hb hh hc hcm hs hx hr hm =>
        rw [hv]
        refine .sl _ hz rfl hc hcm (fun e => by cases e) hx (fun j v hj => ?_) hr
        rw [List.getElem?_take] at hj
        split at hj
        · rename_i hlt
          rw [Nat.zero_add, hm, if_pos ⟨rfl, hlt⟩]
          simpa using hj
        · cases hj
    · cases hd
  | v, .agg cs, d, hv, hd => by
    simp only [V.toD] at hd
    split at hd
    · rename_i ds hds
      cases hd
      cases hv with
      | agg hr => exact .agg (toDL_ok h hr hds)
    · cases hd
  | _, .lp _ _, _, _, hd => by simp [V.toD] at hd
  | _, .re _ _ _, _, _, hd => by simp [V.toD] at hd
  | _, .pe _, _, _, hd => by simp [V.toD] at hd
  | _, .tup _, _, _, hd => by simp [V.toD] at hd
  | _, .g _ _, _, _, hd => by simp [V.toD] at hd
  | _, .any, _, _, hd => by simp [V.toD] at hd
theorem toDL_ok (h : Holds g st a w c) : ∀ {vs : List Value} {xs : List V} {ds : List D}, CVL c st.L vs xs → toDs st.L xs = some ds → ReadsL c.m vs ds
  | _, [], ds, hv, hd => by simp [toDs] at hd; subst hd; cases hv; exact .nil
  | _, x :: xs, ds, hv, hd => by
    simp only [toDs] at hd
    split at hd
    · rename_i d ds' h1 h2
      cases hd
      cases hv with
      | cons a b t => exact .cons a (toD_ok h b h1) (toDL_ok h t h2)
    · cases hd
end
theorem toDs_ok (h : Holds g st a w c) : ∀ {vs : List Value} {xs : List V} {ds : List D}, vs.length = xs.length → (∀ (j : Nat) v x, vs[j]? = some v → xs[j]? = some x → CV c st.L v x) → toDs st.L xs = some ds → ReadsA c.m vs ds
  | [], [], ds, _, _, hd => by simp [toDs] at hd; subst hd; exact .nil
  | [], _ :: _, _, hl, _, _ => by simp at hl
  | _ :: _, [], _, hl, _, _ => by simp at hl
  | v :: vs, x :: xs, ds, hl, hc, hd => by
    simp only [toDs] at hd
    split at hd
    · rename_i d ds' h1 h2
      cases hd
      exact .cons (toD_ok h (hc 0 v x rfl rfl) h1) (toDs_ok h (by simpa using hl) (fun j v x hv hx => hc (j + 1) v x (by simpa using hv) (by simpa using hx)) h2)
    · cases hd

theorem retV_ok {m : Mem} {L : List (Nat × LO)} {v : Value} {rs : List D} (h : Rets m v rs) (hm : c.m = m) : CV c L v (retV rs) := by
  subst hm
  cases h with
  | one h => exact .d h
  | none => exact .tup .nil
  | more h =>
    refine .tup ?_
    have key : ∀ {vs : List Value} {ds : List D}, ReadsA c.m vs ds → CVT c L vs (ds.map V.d) := by
      intro vs ds hr
      induction hr with
      | nil => exact .nil
      | cons h _ ih => exact .cons (.d h) ih
    exact key h

/-- A CALL BY ITS CONTRACT. -/
theorem Holds.call (h : Holds g st a w c) {f : FuncId} {ds : List D} {Q : List D → Hp → Prop} (hs : Spec g.P f ds st.H Q) {vs : Array Value} (hv : ReadsA c.m vs.toList ds) :
    Calls g.P f vs w fun e w' => ∃ v c' rs H', e = .returned v ∧ Q rs H' ∧ Holds g { st with H := H' } a w' c' ∧ Cx.le c c' st.L st.L ∧ CV c' st.L v (retV rs) := by
  refine (hs.2 c.m c.F w vs h.glob h.agr h.heap h.inw hv).mono ?_
  rintro e w' ⟨v, m', F', rs, H', rfl, hQ, hr, hH, hag, hle, hlat, hF1, hF2, hold⟩
  have hc : Cx.le c { c with m := m', F := F' } st.L st.L := ⟨hle, fun _ x => x, fun _ _ _ x => x, fun _ _ _ _ x => ⟨rfl, _, _, rfl, x⟩⟩
  refine ⟨v, { c with m := m', F := F' }, rs, H', rfl, hQ, ⟨h.defers, h.slots, ?_, ?_, hH, hag, h.mono.trans hle, ?_, h.inj, ?_, ?_, ?_, hF2⟩, hc, retV_ok hr rfl⟩
  · intro k x hk
    obtain ⟨v, hv, hcv⟩ := h.env k x hk
    exact ⟨v, hv, hcv.mono hc⟩
  · intro i o hl
    have hlo := h.loc i o hl
    refine hlo.keep hc rfl rfl fun b hb => ?_
    have hb2 := hlo.blk hb
    have hb3 := (h.fresh i b (by simp [hl]) hb).2
    exact ⟨hlat.block b hb2 hb3, fun j => by show m' b j = c.m b j; rw [hold b hb2 hb3]⟩
  · refine h.later.trans hlat.os hlat.tape hlat.output hlat.size fun k hk hf => hlat.block k (Nat.lt_of_lt_of_le hk h.later.size) fun hcf => ?_
    rcases h.foot k hcf with h1 | h1
    · exact hf h1
    · omega
  · intro i b hi hb
    refine ⟨(h.fresh i b hi hb).1, fun hf => ?_⟩
    obtain ⟨o, ho⟩ := Option.isSome_iff_exists.1 hi
    rcases hF1 b hf with h1 | h1
    · exact (h.fresh i b hi hb).2 h1
    · have := (h.loc i o ho).blk hb; omega
  · intro b hf
    rcases hF1 b hf with h1 | h1
    · exact h.foot b h1
    · exact .inr (Nat.le_trans h.later.size h1)
  · intro b hb hf
    show m' b = _
    rw [hold b (Nat.lt_of_lt_of_le hb h.later.size) fun hcf => by
      rcases h.foot b hcf with h1 | h1
      · exact hf h1
      · omega]
    exact h.old b hb hf

theorem callFunc_run {P : Program} {f : FuncId} (hb : hasBody P f = true) (args : Array Value) (w : World) : (callFunc f args).run P w = .ok (.enter f args) w := by
  unfold hasBody at hb
  cases hf : P.funcs[f]? with
  | none => simp [hf] at hb
  | some fn =>
    simp only [hf, Bool.and_eq_true, Bool.not_eq_true', beq_eq_false_iff_ne, ne_eq] at hb
    obtain ⟨h1, h2⟩ := hb
    have h3 : (fn.body.isNone) = false := by cases hbb : fn.body <;> simp_all
    unfold callFunc
    simp only [Sem.run_bind]
    have : (program).run P w = .ok P w := rfl
    rw [this]
    simp only [Result.andThen_ok, hf]
    rw [if_neg (by simpa using h2), if_neg (by simp [h3])]
    rfl
end

/-- A heap with one object more, or another one in its place. -/
def upd (H : Hp) (k : Nat) (o : HO) : Hp := fun j => if j = k then some o else H j
theorem upd_same (H : Hp) (k : Nat) (o : HO) : upd H k o k = some o := by simp [upd]
theorem upd_ne (H : Hp) {k j : Nat} (o : HO) (h : j ≠ k) : upd H k o j = H j := by simp [upd, h]
theorem upd_old {H : Hp} {k j : Nat} {o o' : HO} (h : H k = none) (hj : H j = some o') : upd H k o j = some o' := by
  rw [upd_ne]
  · exact hj
  · intro e; subst e; rw [h] at hj; cases hj
theorem upd_none {H : Hp} {k j : Nat} {o : HO} (h : upd H k o j = none) : j ≠ k ∧ H j = none := by
  unfold upd at h
  split at h
  · cases h
  · rename_i hne; exact ⟨hne, h⟩
def subH (H1 H2 : Hp) : Prop := ∀ k o, H1 k = some o → H2 k = some o
theorem subH.refl (H : Hp) : subH H H := fun _ _ h => h
theorem subH_new {H : Hp} {k : Nat} {o : HO} (h : H k = none) : subH H (upd H k o) := fun _ _ hj => upd_old h hj
theorem subH.trans {a b c : Hp} (h : subH a b) (k : subH b c) : subH a c := fun _ _ x => k _ _ (h _ _ x)
theorem upd_upd (H : Hp) (k : Nat) (o o' : HO) : upd (upd H k o) k o' = upd H k o' := by funext j; unfold upd; split <;> rfl
theorem upd_comm (H : Hp) {k j : Nat} (o o' : HO) (h : k ≠ j) : upd (upd H k o) j o' = upd (upd H j o') k o := by
  funext i; unfold upd
  by_cases h1 : i = j
  · subst h1; simp [Ne.symm h]
  · simp [h1]
/-- With less known of the heap. -/
theorem HpOk.sub {m : Mem} {w : World} {F : Nat → Prop} {H H1 : Hp} (h : HpOk m w F H) (hs : subH H1 H) : HpOk m w (fun b => (H1 b).isSome = true) H1 :=
  ⟨fun k o hk => h.at_ k o (hs k o hk), fun _ => Iff.rfl, fun k hk j => h.free k ((h.foot k).2 (by
    obtain ⟨o, ho⟩ := Option.isSome_iff_exists.1 hk
    rw [hs k o ho]; rfl)) j⟩
theorem subH_foot {m : Mem} {w : World} {F : Nat → Prop} {H H1 : Hp} (h : HpOk m w F H) (hs : subH H1 H) {b : Nat} (hb : (H1 b).isSome = true) : F b := by
  obtain ⟨o, ho⟩ := Option.isSome_iff_exists.1 hb
  exact (h.foot b).2 (by rw [hs b o ho]; rfl)

/-- A contract of the kit's, taken over: the world behind the call only has new blocks. -/
theorem Spec.of_calls {P : Program} {f : FuncId} {ds : List D} {H : Hp} {rs : List D} (hb : hasBody P f = true)
    (h : ∀ (m : Mem) (F : Nat → Prop) (w : World) (vs : Array Value), Glob P F w → Agrees m w → ReadsA m vs.toList ds → Calls P f vs w fun e w' => ∃ v m', e = .returned v ∧ Rets m' v rs ∧ Agrees m' w' ∧ (∀ b, b < w.heap.size → m' b = m b) ∧
      w'.os = w.os ∧ w'.tape = w.tape ∧ w'.output = w.output ∧ w.heap.size ≤ w'.heap.size ∧ ∀ k, k < w.heap.size → w'.heap[k]? = w.heap[k]?) : Spec P f ds H (Ret rs H) := by
  refine ⟨hb, fun m F w vs hg ha hH hin hv => (h m F w vs hg ha hv).mono ?_⟩
  rintro e w' ⟨v, m', rfl, hr, hag, hm, h1, h2, h3, h4, h5⟩
  have hle : Mem.le m m' := fun b o v e => by rw [hm b (ha.lt e)]; exact e
  refine ⟨v, m', F, rs, H, rfl, ⟨rfl, rfl⟩, hr, ?_, hag, hle, ⟨h1, h2, h3, h4, fun k hk _ => h5 k hk⟩, fun b hb => .inl hb, fun b hb => Nat.lt_of_lt_of_le (hin b hb) h4, fun b hb _ => hm b hb⟩
  exact hH.keep hle fun b hf => ⟨h5 b (hin b hf), fun j => by rw [hm b (hin b hf)]⟩

end Go.Ab
