/- THE ABSTRACT LAYER, PART 15: a function's contract from its body's verification condition. -/
import Derived.Test.YtjnkfcbbgfgmhaaDoorAbCode
set_option linter.unusedSimpArgs false
set_option linter.unusedVariables false
namespace Go.Ab
open Go

def params : List D → Nat → List (Nat × V)
  | [], _ => []
  | d :: r, i => (i, .d d) :: params r (i + 1)
def resOk (P : Program) (st : St) (r : ResultVar) (d : D) : Prop :=
  match r with
  | .tmp t => match (rd st (.tmp t)).toD st.L with | some e => leD e d | none => False
  | .cell p t => (qld P st t (rd st (.tmp p))).side ∧ match (qld P st t (rd st (.tmp p))).val.toD st.L with | some e => leD e d | none => False
def resAll (P : Program) (st : St) : List ResultVar → List D → Prop
  | [], [] => True
  | r :: rs, d :: ds => resOk P st r d ∧ resAll P st rs ds
  | _, _ => False
/-- What is closed of a function: its slots are there, it is none of the model's own. -/
def fnOk (P : Program) (fn : Func) (code : Code) (n : Nat) : Bool :=
  slotsOk fn.ntmps code && !(fn.name == "runtime.NumGoroutine") && decide (n ≤ fn.ntmps) && P.follows .mixedOrders

theorem params_lk : ∀ (ds : List D) (i : Nat) (k : Nat) (x : V), lk k (params ds i) = some x → ∃ d, x = .d d ∧ i ≤ k ∧ ds[k - i]? = some d
  | [], _, _, _, h => by simp [params] at h
  | d :: r, i, k, x, h => by
    simp only [params, lk_cons] at h
    split at h
    · rename_i e; subst e
      cases h
      exact ⟨d, rfl, Nat.le_refl _, by simp⟩
    · obtain ⟨d', e1, e2, e3⟩ := params_lk r (i + 1) k x h
      refine ⟨d', e1, by omega, ?_⟩
      have : k - i = (k - (i + 1)) + 1 := by omega
      rw [this, List.getElem?_cons_succ]; exact e3
theorem ReadsA.get {m : Mem} {vs : List Value} {ds : List D} (h : ReadsA m vs ds) : ∀ (i : Nat) d, ds[i]? = some d → ∃ v, vs[i]? = some v ∧ Reads m v d := by
  induction h with
  | nil => intro i d hd; simp at hd
  | cons h t ih =>
    intro i d hd
    cases i with
    | zero => simp at hd; subst hd; exact ⟨_, rfl, h⟩
    | succ i => simpa using ih i d (by simpa using hd)
theorem ReadsA.length {m : Mem} {vs : List Value} {ds : List D} (h : ReadsA m vs ds) : vs.length = ds.length := by
  induction h with
  | nil => rfl
  | cons _ _ ih => simp [ih]

def resRun (tmps : Array Value) : ResultVar → Sem Value
  | .tmp t => pure (tmps.getD t undef)
  | .cell p t => asAddr (tmps.getD p undef) >>= fun x => loadVar t x
theorem results_eq (fn : Func) (tmps : Array Value) : results fn tmps = (fn.results.mapM (resRun tmps) >>= fun vs => pure (if h : vs.size = 1 then vs[0] else .tuple vs)) := by
  unfold results
  congr 1
section
variable {g : Gx} {st : St} {a : Act} {w : World} {c : Cx}

theorem res_ok (h : Holds g st a w c) {r : ResultVar} {d : D} (hr : resOk g.P st r d) :
    ∃ v, (resRun a.tmps r).run g.P w = .ok v w ∧ Reads c.m v d := by
  cases r with
  | tmp t =>
    simp only [resOk] at hr
    split at hr
    · rename_i e he
      exact ⟨_, rfl, leD_ok hr (toD_ok h (rd_ok h (.tmp t)) he)⟩
    · exact hr.elim
  | cell p t =>
    obtain ⟨h1, h2⟩ := hr
    obtain ⟨v, hrun, hcv⟩ := qld_ok h (rd_ok h (.tmp p)) h1
    split at h2
    · rename_i e he
      refine ⟨v, ?_, leD_ok h2 (toD_ok h hcv he)⟩
      have e1 : a.eval (.tmp p) = a.tmps.getD p undef := rfl
      rw [e1] at hrun
      show (asAddr (a.tmps.getD p undef) >>= fun x => loadVar t x).run g.P w = .ok v w
      generalize a.tmps.getD p undef = pv at hrun ⊢
      cases pv with
      | pointer ad =>
        cases ad with
        | some ad =>
          simp only [Instr.loadAt, Instr.sureAddr, Sem.run_bind, Sem.run_pure, Result.andThen_ok] at hrun
          simp only [asAddr, Sem.run_bind, Sem.run_pure, Result.andThen_ok, hrun]
        | none => simp [Instr.loadAt, Instr.sureAddr, stuck, Sem.run] at hrun
      | _ => simp [Instr.loadAt, Instr.sureAddr, stuck, Sem.run] at hrun
    · exact h2.elim

theorem resAll_ok (h : Holds g st a w c) {fn : Func} {rs : List D} (hr : resAll g.P st fn.results.toList rs) : ∃ v, (results fn a.tmps).run g.P w = .ok v w ∧ Rets c.m v rs := by
  have key : ∀ (l : List ResultVar) (rs : List D), resAll g.P st l rs → ∃ vs : List Value, (l.mapM (resRun a.tmps)).run g.P w = .ok vs w ∧ ReadsA c.m vs rs := by
    intro l
    induction l with
    | nil => intro rs hr; cases rs with
      | nil => exact ⟨[], rfl, .nil⟩
      | cons => simp [resAll] at hr
    | cons r l ih => intro rs hr; cases rs with
      | nil => simp [resAll] at hr
      | cons d rs =>
        simp only [resAll] at hr
        obtain ⟨v, h1, h2⟩ := res_ok h hr.1
        obtain ⟨vs, h3, h4⟩ := ih rs hr.2
        refine ⟨v :: vs, ?_, .cons h2 h4⟩
        rw [List.mapM_cons]
        simp only [Sem.run_bind, h1, Result.andThen_ok, h3, Sem.run_pure]
  obtain ⟨vs, h1, h2⟩ := key _ _ hr
  have hrun : (results fn a.tmps).run g.P w = .ok (if hh : vs.toArray.size = 1 then vs.toArray[0] else .tuple vs.toArray) w := by
    rw [results_eq, Array.mapM_eq_mapM_toList]
    simp only [Sem.run_bind, Sem.run_map, h1, Result.andThen_ok, Sem.run_pure]
  refine ⟨_, hrun, ?_⟩
  cases h2 with
  | nil => exact .none
  | cons hv ht =>
    cases ht with
    | nil => exact .one hv
    | cons hv2 ht2 =>
      rw [dif_neg (by simp)]
      exact .more (.cons hv (.cons hv2 ht2))
end

/-- A FUNCTION's CONTRACT FROM ITS BODY. -/
theorem Spec.of_vcRX (X : List Nat) {J : Bool} {P : Program} {f : FuncId} {fn : Func} {code : Code} {ds : List D} {H : Hp} {Q : List D → Hp → Prop} (hf : P.funcs[f]? = some fn) (hb : fn.body = some code) (hok : fnOk P fn code ds.length = true)
    (h : vc P fn.ntmps code { env := params ds 0, L := [], H := H, X := X, J := J } fun
      | .normal, st => ∃ rs H', resAll P { st with L := frzL st.L } fn.results.toList rs ∧ subH H' st.H ∧ Q rs H'
      | .ret, st => ∃ rs H', resAll P { st with L := frzL st.L } fn.results.toList rs ∧ subH H' st.H ∧ Q rs H'
      | _, _ => False) : Spec P f ds H Q := by
  simp only [fnOk, Bool.and_eq_true, Bool.not_eq_true', decide_eq_true_eq] at hok
  obtain ⟨⟨⟨hsl, hnm⟩, hn⟩, hm⟩ := hok
  refine ⟨by unfold hasBody; rw [hf]; simp [hb, hnm], ?_⟩
  intro m F w vs hgl hag hH hin hvs
  have hlen := hvs.length
  let g : Gx := { P := P, n := fn.ntmps, w0 := w, m0 := m, F0 := F, glob := hgl }
  have h0 : Holds g { env := params ds 0, L := [], H := H, X := X, J := J } { tmps := vs ++ Array.replicate (fn.ntmps - vs.size) undef, defers := [] } w { m := m, bk := fun _ => none, lv := fun _ => undef, F := F } := by
    refine ⟨rfl, ?_, ?_, ?_, hH, hag, .refl _, .refl _ _, ?_, ?_, fun b hb => .inl hb, fun _ _ _ => rfl, hin⟩
    · simp only [Array.size_append, Array.size_replicate]
      have : vs.size = ds.length := by simpa using hlen
      show vs.size + (fn.ntmps - vs.size) = fn.ntmps
      omega
    · intro k x hk
      obtain ⟨d, rfl, _, hd⟩ := params_lk ds 0 k x hk
      obtain ⟨v, hv, hr⟩ := hvs.get k d (by simpa using hd)
      refine ⟨v, ?_, .d hr⟩
      have hv' : vs[k]? = some v := by simpa using hv
      have hlt : k < vs.size := (Array.getElem?_eq_some_iff.1 hv').1
      rw [Array.getElem?_append_left hlt]; exact hv'
    · intro i o hi; simp at hi
    · intro i j b hi; simp at hi
    · intro i b hi; simp at hi
  refine calls_of_wp hf hb (wp_mono (vc_ok (g := g) hm code _ _ hsl h _ w _ h0) ?_)
  rintro e a' w' ⟨st', c', hh, hq⟩
  have fin : (∃ rs H', resAll P { st' with L := frzL st'.L } fn.results.toList rs ∧ subH H' st'.H ∧ Q rs H') → a'.defers = [] ∧ ∃ v, (results fn a'.tmps).run P w' = .ok v w' ∧ ∃ v' m' F' rs H', Ending.returned v = .returned v' ∧ Q rs H' ∧ Rets m' v' rs ∧ HpOk m' w' F' H' ∧ Agrees m' w' ∧ Mem.le m m' ∧ Later F w w' ∧
      (∀ b, F' b → F b ∨ w.heap.size ≤ b) ∧ (∀ b, F' b → b < w'.heap.size) ∧ ∀ b, b < w.heap.size → ¬ F b → m' b = m b := by
    rintro ⟨rs, H', h1, hsub, hQ⟩
    obtain ⟨c2, hh2, _⟩ := hh.freeze
    obtain ⟨v, hv, hr⟩ := resAll_ok hh2 h1
    exact ⟨hh.defers, v, hv, v, c2.m, _, rs, H', rfl, hQ, hr, hh2.heap.sub hsub, hh2.agr, hh2.mono, hh2.later, fun b hb => hh2.foot b (subH_foot hh2.heap hsub hb), fun b hb => hh2.inw b (subH_foot hh2.heap hsub hb), hh2.old⟩
  cases e with
  | normal => exact fin hq
  | ret => exact fin hq
  | _ => exact hq.elim

theorem Spec.of_vcR {P : Program} {f : FuncId} {fn : Func} {code : Code} {ds : List D} {H : Hp} {Q : List D → Hp → Prop} (hf : P.funcs[f]? = some fn) (hb : fn.body = some code) (hok : fnOk P fn code ds.length = true)
    (h : vc P fn.ntmps code { env := params ds 0, L := [], H := H } fun
      | .normal, st => ∃ rs H', resAll P { st with L := frzL st.L } fn.results.toList rs ∧ subH H' st.H ∧ Q rs H'
      | .ret, st => ∃ rs H', resAll P { st with L := frzL st.L } fn.results.toList rs ∧ subH H' st.H ∧ Q rs H'
      | _, _ => False) : Spec P f ds H Q := Spec.of_vcRX [] (J := false) hf hb hok h
/-- The same where one answer is told. -/
theorem Spec.of_vcX (X : List Nat) {J : Bool} {P : Program} {f : FuncId} {fn : Func} {code : Code} {ds rs : List D} {H H' : Hp} (hf : P.funcs[f]? = some fn) (hb : fn.body = some code) (hok : fnOk P fn code ds.length = true)
    (h : vc P fn.ntmps code { env := params ds 0, L := [], H := H, X := X, J := J } fun
      | .normal, st => resAll P { st with L := frzL st.L } fn.results.toList rs ∧ subH H' st.H
      | .ret, st => resAll P { st with L := frzL st.L } fn.results.toList rs ∧ subH H' st.H
      | _, _ => False) : Spec P f ds H (Ret rs H') :=
  Spec.of_vcRX X (J := J) hf hb hok (vc_mono (fun e st hq => by
    cases e with
    | normal => exact ⟨rs, H', hq.1, hq.2, rfl, rfl⟩
    | ret => exact ⟨rs, H', hq.1, hq.2, rfl, rfl⟩
    | _ => exact hq) h)
theorem Spec.of_vc {P : Program} {f : FuncId} {fn : Func} {code : Code} {ds rs : List D} {H H' : Hp} (hf : P.funcs[f]? = some fn) (hb : fn.body = some code) (hok : fnOk P fn code ds.length = true)
    (h : vc P fn.ntmps code { env := params ds 0, L := [], H := H } fun
      | .normal, st => resAll P { st with L := frzL st.L } fn.results.toList rs ∧ subH H' st.H
      | .ret, st => resAll P { st with L := frzL st.L } fn.results.toList rs ∧ subH H' st.H
      | _, _ => False) : Spec P f ds H (Ret rs H') := Spec.of_vcX [] (J := false) hf hb hok h

end Go.Ab
