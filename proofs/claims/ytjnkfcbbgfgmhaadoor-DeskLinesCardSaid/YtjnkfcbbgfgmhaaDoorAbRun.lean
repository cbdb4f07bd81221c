/- THE ABSTRACT LAYER, PART 13: operations with effects ('sop'), code ('vc'), functions. -/
import Derived.Test.YtjnkfcbbgfgmhaaDoorAbVc
set_option linter.unusedSimpArgs false
set_option linter.unusedVariables false
namespace Go.Ab
open Go

/-- All that a slot's content points to is there, and as it was. -/
def V.okL (L L' : List (Nat × LO)) : V → Prop
  | .d _ => True
  | .pe _ => True
  | .any => True
  | .lp i _ => (lk i L').isSome = true
  | .row i => lk i L' = lk i L
  | .re i _ _ => lk i L' = lk i L
  | .g _ x => x.okL L L'
  | .agg cs => ∀ x ∈ cs, x = .any ∨ ∃ d, x = .d d
  | .tup cs => ∀ x ∈ cs, x = .any ∨ ∃ d, x = .d d
def leV (y x : V) : Prop :=
  y = x ∨ match y, x with
    | .d a, .d b => leD a b
    | _, .any => True
    | _, _ => False
def leEnv (st : St) (L' : List (Nat × LO)) : List (Nat × V) → Prop
  | [] => True
  | (k, x) :: r => (match lk k st.env with | some y => leV y x ∧ x.okL st.L L' | none => False) ∧ leEnv st L' r
def okVs (L L' : List (Nat × LO)) : List V → Prop
  | [] => True
  | x :: r => x.okL L L' ∧ okVs L L' r
theorem okVs_mem {L L' : List (Nat × LO)} : ∀ {cs : List V}, okVs L L' cs → ∀ x ∈ cs, x.okL L L'
  | [], _, x, hx => by cases hx
  | y :: r, h, x, hx => by
    rcases List.mem_cons.1 hx with rfl | hx
    · exact h.1
    · exact okVs_mem h.2 x hx
def okLO (L L' : List (Nat × LO)) : LO → Prop
  | .box cs => okVs L L' cs
  | .row _ _ _ => True
def leVs : List V → List V → Prop
  | [], [] => True
  | a :: r, b :: s => leV a b ∧ leVs r s
  | _, _ => False
def leLO : LO → LO → Prop
  | .box cs, .box ds => leVs cs ds
  | .row a b xs, .row c d ys => a = c ∧ b = d ∧ xs = ys
  | _, _ => False
def leLoc (st : St) (L' : List (Nat × LO)) : List (Nat × LO) → Prop
  | [] => True
  | (i, o) :: r => (match lk i st.L with | some p => leLO p o ∧ okLO st.L L' o | none => False) ∧ leLoc st L' r
/-- What follows by forgetting and weakening alone. -/
def St.le (st st' : St) : Prop := leEnv st st'.L st'.env ∧ leLoc st st'.L st'.L ∧ st'.H = st.H

theorem leEnv_lk {st : St} {L' : List (Nat × LO)} : ∀ {e : List (Nat × V)}, leEnv st L' e → ∀ k x, lk k e = some x → ∃ y, lk k st.env = some y ∧ leV y x ∧ x.okL st.L L'
  | [], _, k, x, h => by simp at h
  | (j, z) :: r, he, k, x, h => by
    rw [lk_cons] at h
    simp only [leEnv] at he
    split at h
    · rename_i e; subst e
      cases h
      obtain ⟨h1, _⟩ := he
      split at h1
      · rename_i y hy; exact ⟨y, hy, h1⟩
      · exact h1.elim
    · exact leEnv_lk he.2 k x h
theorem leLoc_lk {st : St} {L' : List (Nat × LO)} : ∀ {M : List (Nat × LO)}, leLoc st L' M → ∀ i o, lk i M = some o → ∃ p, lk i st.L = some p ∧ leLO p o ∧ okLO st.L L' o
  | [], _, k, x, h => by simp at h
  | (j, z) :: r, he, k, x, h => by
    rw [lk_cons] at h
    simp only [leLoc] at he
    split at h
    · rename_i e; subst e
      cases h
      obtain ⟨h1, _⟩ := he
      split at h1
      · rename_i p hp; exact ⟨p, hp, h1⟩
      · exact h1.elim
    · exact leLoc_lk he.2 k x h
theorem leV_cv {c : Cx} {L : List (Nat × LO)} {y x : V} {v : Value} (hl : leV y x) (hc : CV c L v y) : CV c L v x := by
  rcases hl with rfl | hl
  · exact hc
  · split at hl
    · cases hc with | d hr => exact .d (leD_ok hl hr)
    · exact .any
    · exact hl.elim
theorem leVs_cv {c : Cx} {L : List (Nat × LO)} : ∀ {cs ds : List V} {vs : List Value}, leVs cs ds → CVL c L vs cs → CVL c L vs ds
  | [], [], _, _, h => h
  | [], _ :: _, _, h, _ => h.elim
  | _ :: _, [], _, h, _ => h.elim
  | _ :: _, _ :: _, _, h, .cons h1 hv ht => .cons h1 (leV_cv h.1 hv) (leVs_cv h.2 ht)

theorem CVL.plain {c : Cx} {L L' : List (Nat × LO)} : ∀ {vs : List Value} {xs : List V}, (∀ x ∈ xs, x = .any ∨ ∃ d, x = .d d) → CVL c L vs xs → CVL c L' vs xs
  | _, [], _, h => by cases h; exact .nil
  | _, x :: r, hx, .cons h1 h t => by
    refine .cons h1 ?_ (CVL.plain (fun y hy => hx y (List.mem_cons_of_mem _ hy)) t)
    rcases hx x (List.mem_cons_self ..) with rfl | ⟨d, rfl⟩
    · exact .any
    · cases h with | d h => exact .d h
theorem CVT.plain {c : Cx} {L L' : List (Nat × LO)} : ∀ {vs : List Value} {xs : List V}, (∀ x ∈ xs, x = .any ∨ ∃ d, x = .d d) → CVT c L vs xs → CVT c L' vs xs
  | _, [], _, h => by cases h; exact .nil
  | _, x :: r, hx, .cons h t => by
    refine .cons ?_ (CVT.plain (fun y hy => hx y (List.mem_cons_of_mem _ hy)) t)
    rcases hx x (List.mem_cons_self ..) with rfl | ⟨d, rfl⟩
    · exact .any
    · cases h with | d h => exact .d h
theorem CV.okL {c : Cx} {L L' : List (Nat × LO)} {v : Value} : ∀ {x : V}, x.okL L L' → CV c L v x → CV c L' v x
  | .d _, _, .d h => .d h
  | .pe _, _, .pe vals h1 h2 => .pe vals h1 h2
  | .any, _, _ => .any
  | .lp _ _, h, .lp _ hb => .lp h hb
  | .row _, h, .row hl => .row (by rw [← hl]; exact h)
  | .re _ _ _, h, .re hl hi hb => .re (by rw [← hl]; exact h) hi hb
  | .g b x, h, .g h1 h2 => .g (fun e => CV.okL (x := x) h (h1 e)) h2
  | .agg cs, h, .agg hr => .agg (hr.plain h)
  | .tup cs, h, .tup hr => .tup (hr.plain h)

theorem imp_le {st st' : St} (h : St.le st st') : St.imp st st' := by
  intro g a w c hh
  obtain ⟨h1, h2, h3⟩ := h
  have key : ∀ {k}, (lk k st'.L).isSome = true → (lk k st.L).isSome = true := fun {k} hk => by
    obtain ⟨o, ho⟩ := Option.isSome_iff_exists.1 hk
    obtain ⟨p, hp, _⟩ := leLoc_lk h2 k o ho
    rw [hp]; rfl
  refine ⟨c, hh.defers, hh.slots, ?_, ?_, by rw [h3]; exact hh.heap, hh.agr, hh.mono, hh.later, fun j k b hj hk => hh.inj j k b (key hj) (key hk), fun j b hj => hh.fresh j b (key hj), hh.foot, hh.old, hh.inw⟩
  · intro k x hk
    obtain ⟨y, hy, hl, ho⟩ := leEnv_lk h1 k x hk
    obtain ⟨v, hv, hc⟩ := hh.env k y hy
    exact ⟨v, hv, CV.okL ho (leV_cv hl hc)⟩
  · intro i o hi
    obtain ⟨p, hl, hle, ho⟩ := leLoc_lk h2 i o hi
    have hlo := hh.loc i p hl
    cases hlo with
    | @box cs1 b1 arr1 ty1 hb hx hm hv =>
      cases o with
      | row => exact hle.elim
      | box cs2 =>
      refine .box hb hx hm ?_
      have : ∀ {vs : List Value} {cs : List V}, (∀ x ∈ cs, x.okL st.L st'.L) → CVL c st.L vs cs → CVL c st'.L vs cs := by
        intro vs cs
        induction cs generalizing vs with
        | nil => intro _ h; cases h; exact .nil
        | cons x r ih =>
          intro hx h
          cases h with | cons a b t => exact .cons a (CV.okL (hx x (List.mem_cons_self ..)) b) (ih (fun y hy => hx y (List.mem_cons_of_mem _ hy)) t)
      exact this (okVs_mem ho) (leVs_cv hle hv)
    | nil hv hb =>
      cases o with
      | box => exact hle.elim
      | row => obtain ⟨rfl, rfl, rfl⟩ := hle; exact .nil hv hb
    | row hz hv hb hx hc hcm hs hxs hr hm =>
      cases o with
      | box => exact hle.elim
      | row => obtain ⟨rfl, rfl, rfl⟩ := hle; exact .row hz hv hb hx hc hcm hs hxs hr hm

/-- A nil slice in slot k becomes a row of the call's own. -/
theorem imp_adopt (st : St) (k i sz : Nat) (fz : Bool) {f : Bool} (hk : lk k st.env = some (.d (.sl 0 f []))) (hi : lk i st.L = none) :
    St.imp st { st with env := (k, .row i) :: st.env, L := (i, .row sz fz []) :: st.L } := by
  intro g a w c hh
  obtain ⟨c', h1, h2, h3⟩ := hh.nilRow hi sz fz
  refine ⟨c', h1.defers, h1.slots, ?_, h1.loc, h1.heap, h1.agr, h1.mono, h1.later, h1.inj, h1.fresh, h1.foot, h1.old, h1.inw⟩
  intro j x hj
  simp only at hj
  rw [lk_cons] at hj
  split at hj
  · rename_i e; subst e
    cases hj
    obtain ⟨v, hv, hc⟩ := hh.env k _ hk
    refine ⟨v, hv, ?_⟩
    cases hc with
    | d hr => cases hr with
      | nil => exact h3
      | sl0 hz => omega
      | sl vals hz => omega
  · exact h1.env j x hj

/-- A loop: a family of states, a measure. -/
def LoopOk (body : St → (Exit → St → Prop) → Prop) (st : St) (Q : Exit → St → Prop) : Prop :=
  ∃ (α : Type) (inv : α → St) (ok : α → Prop) (μ : α → Nat) (x : α), ok x ∧ St.imp st (inv x) ∧ ∀ x, ok x → body (inv x) fun
    | .normal, st' => ∃ y, ok y ∧ μ y < μ x ∧ St.imp st' (inv y)
    | e, st' => Q e st'

/-- The place of a new object: what was there is forgotten. -/
def St.clear (st : St) (d : Nat) : St := { st with env := demEnv d st.env, L := demLoc d st.L }
def St.newL (st : St) (d : Nat) (o : LO) (x : V) : St := { st with env := (d, x) :: st.env, L := (d, o) :: st.L }

/-- 'append': the answer in slot d. -/
def sapp (P : Program) (st : St) (d t : Nat) (s x : V) (K : St → Prop) : Prop :=
  match tk P t, x.toD st.L with
  | .slice e sz eb, some (.sl sz' _ ys) =>
    match tz P e with
    | some zs =>
      match s with
      | .row i =>
        match lk i st.L with
        | some (.row sz2 fz xs) => (zs.length = sz ∧ 0 < sz ∧ 0 < eb ∧ (ys = [] ∨ sz' = sz) ∧ sz2 = sz ∧ (xs.length + ys.length) * eb ≤ 140737488355328) ∧
            K ((({ st with env := demEnv i st.env, L := demLoc i st.L } : St).clear d).newL d (.row sz fz (xs ++ ys)) (.row d))
        | _ => False
      | .d (.sl s2 f xs) =>
        if s2 = 0 ∧ xs = [] then (zs.length = sz ∧ 0 < sz ∧ 0 < eb ∧ (ys = [] ∨ sz' = sz) ∧ ys.length * eb ≤ 140737488355328) ∧ K ((st.clear d).newL d (.row sz true ys) (.row d))
        else (zs.length = sz ∧ 0 < sz ∧ 0 < eb ∧ (ys = [] ∨ sz' = sz) ∧ s2 = sz ∧ f = true ∧ (xs.length + ys.length) * eb ≤ 140737488355328) ∧
            ((ys ≠ [] ∧ K ((st.clear d).newL d (.row sz true (xs ++ ys)) (.row d))) ∨ K (({ st.clear d with env := demEnv d (st.clear d).env, L := demLoc d (st.clear d).L } : St).put (some d) (.d (.sl sz false (xs ++ ys)))))
      | _ => False
    | none => False
  | _, _ => False

/-- A call: by some contract. -/
def CallVc (P : Program) (f : FuncId) (ds : List D) (H : Hp) (K : List D → Hp → Prop) : Prop :=
  ∃ es Q, leDs ds es ∧ Spec P f es H Q ∧ ∀ rs H', Q rs H' → K rs H'
theorem CallVc.mono {P : Program} {f : FuncId} {ds : List D} {H : Hp} {K K' : List D → Hp → Prop} (hk : ∀ rs H', K rs H' → K' rs H') (h : CallVc P f ds H K) : CallVc P f ds H K' :=
  let ⟨es, Q, h1, h2, h3⟩ := h; ⟨es, Q, h1, h2, fun rs H' q => hk _ _ (h3 rs H' q)⟩
/-- What a call is followed by. -/
def Kc (K : St → Prop) (st : St) (d : Option Nat) : List D → Hp → Prop := fun rs H' => K (({ st with H := H' } : St).put d (retV rs))
/-- By a contract that tells just one answer. -/
theorem call_of {P : Program} {f : FuncId} {ds es rs : List D} {H H' : Hp} {K : List D → Hp → Prop} (c : Spec P f es H (Ret rs H')) (hl : leDs ds es) (hk : K rs H') : CallVc P f ds H K :=
  ⟨es, _, hl, c, fun _ _ ⟨e1, e2⟩ => by subst e1 e2; exact hk⟩
theorem call_ofR {P : Program} {f : FuncId} {ds es : List D} {H : Hp} {Q K : List D → Hp → Prop} (c : Spec P f es H Q) (hl : leDs ds es) (hk : ∀ rs H', Q rs H' → K rs H') : CallVc P f ds H K :=
  ⟨es, Q, hl, c, hk⟩

def inX : Nat → List Nat → Bool
  | _, [] => false
  | d, x :: r => if x = d then true else inX d r
/-- A new heap object. -/
def sopH (st : St) (d : Option Nat) (o : HO) (x : Nat → V) (K : St → Prop) : Prop := ∀ k, st.H k = none → K (({ st with H := upd st.H k o } : St).put d (x k))
def ptrV (k : Nat) : V := .d (.v (.pointer (some ⟨k, 0, none⟩)))
def mapV (k : Nat) : V := .d (.v (.map (some k)))
def slcV (n k : Nat) : V := .d (.v (.slice (some ⟨k, 0, none⟩) n n))
/-- As data; rows that must be are frozen. -/
def argsD (st : St) (xs : List V) : Option (List D × List (Nat × LO)) :=
  match toDs st.L xs with
  | some ds => some (ds, st.L)
  | none => match toDs (frzL st.L) xs with | some ds => some (ds, frzL st.L) | none => none
/-- A slice, compared with nil. -/
def slNil (P : Program) (st : St) (op : BinOp) (t : TypeId) (x y : Operand) : Option (Bool × Nat × List D) :=
  match op, tk P t, y with
  | .eql, .slice _ _ _, .const (.slice none 0 0) => match rd st x with | .d (.sl sz _ xs) => some (false, sz, xs) | .row i => (match lk i st.L with | some (.row _ _ xs) => some (false, 1, xs) | _ => none) | _ => none
  | .neq, .slice _ _ _, .const (.slice none 0 0) => match rd st x with | .d (.sl sz _ xs) => some (true, sz, xs) | .row i => (match lk i st.L with | some (.row _ _ xs) => some (true, 1, xs) | _ => none) | _ => none
  | _, _, _ => none
/-- One operation, in the text's order. -/
def sop (P : Program) (ops : Array Oper) (o : Oper) (st : St) (K : St → Prop) : Prop :=
  match o.op with
  | .alloc t =>
    match o.dst, tz P t with
    | some d, some zs => if inX d st.X = true then sopH st (some d) (.cells zs) ptrV K else K ((st.clear d).newL d (.box (zs.map V.d)) (.lp d 0))
    | _, _ => False
  | .box _ x =>
    match o.dst, (rd st x).cellsOf with
    | some d, some ys => if inX d st.X = true then (match toDs st.L ys with | some ds => sopH st (some d) (.cells ds) ptrV K | none => False) else lk d st.L = none ∧ K (st.newL d (.box ys) (.lp d 0))
    | _, _ => False
  | .store t p x =>
    match o.dst, ldk P t, (rd st x).cellsOf with
    | none, some (_, sz), some ys =>
      match rd st p with
      | .lp r off =>
        match lk r st.L with
        | some (.box cs) => (ys.length = sz ∧ off + sz ≤ cs.length) ∧ K { st with L := upL r (.box (cs.take off ++ ys ++ cs.drop (off + sz))) st.L }
        | _ => False
      | .d (.v (.pointer (some ⟨b, off, none⟩))) =>
        match st.H b, argsD st ys with
        | some (.cells cs), some (ds, L') => (ds.length = sz ∧ off + sz ≤ cs.length) ∧ K { st with L := L', H := upd st.H b (.cells (cs.take off ++ ds ++ cs.drop (off + sz))) }
        | _, _ => False
      | _ => False
    | _, _, _ => False
  | .makeMap _ none =>
    match o.dst with
    | some d => sopH st (some d) (.map []) mapV K
    | none => False
  | .mapUpdate t m k x =>
    match o.dst, tk P t, rd st m, rd st k with
    | none, .map kt _, .d (.v (.map (some b))), .d key =>
      match st.H b, argsD st [rd st x] with
      | some (.map es), some ([y], L') =>
        match keyIn key es with
        | some r => scalK (tk P kt) key = true ∧ K { st with L := L', H := upd st.H b (.map (setKey key y es r)) }
        | none => False
      | _, _ => False
    | _, _, _, _ => False
  | .range t x =>
    match o.dst, tk P t, rd st x with
    | some d, .string, .d (.v (.string s)) => sopH st (some d) (.iter (sb s) 0) ptrV K
    | _, _, _ => False
  | .next x true =>
    match rd st x with
    | .d (.v (.pointer (some ⟨b, 0, none⟩))) =>
      match st.H b with
      | some (.iter l pos) => (pos < l.length → K (({ st with H := upd st.H b (.iter l (pos + (Utf8.decode ⟨l.toArray⟩ pos).2)) } : St).put o.dst
            (.tup [.d (.v (.bool true)), .d (.v (.int .i64 pos)), .d (.v (.int .i32 (Utf8.decode ⟨l.toArray⟩ pos).1))]))) ∧ (¬ pos < l.length → K (st.put o.dst (.tup [.d (.v (.bool false))])))
      | _ => False
    | _ => False
  | .binOp op t x y _ =>
    match slNil P st op t x y with
    | some (neg, sz, xs) => ∀ b : Bool, (b = true → xs = []) → (sz = 0 → b = true) → K (st.put o.dst (.d (.v (.bool (if neg = true then !b else b)))))
    | none => (qst P ops st o).1 ∧ ((qst P ops st o).2.1 → K (st.put o.dst (qst P ops st o).2.2))
  | .buildSlice t n ps =>
    match o.dst with
    | some d => if inX d st.X = true then (match (qst P ops st o).2.2 with | .d (.sl _ _ xs) => (qst P ops st o).1 ∧ sopH st (some d) (.cells (xs.flatMap D.cells)) (slcV n) K | _ => False)
                else (qst P ops st o).1 ∧ ((qst P ops st o).2.1 → K (st.put o.dst (qst P ops st o).2.2))
    | none => False
  | .call cl =>
    match cl.callee, cl.args.toList, cl.argTypes.toList with
    | .builtin .append, [s, x], [t, t'] =>
      match o.dst with
      | some d => t = t' ∧ sapp P st d t (rd st s) (rd st x) K
      | none => False
    | .value (.func f), xs, _ =>
      match argsD st (xs.map (rd st)) with
      | some (ds, L') => CallVc P f ds st.H (Kc K { st with L := L' } o.dst)
      | none => False
    | _, _, _ => (qst P ops st o).1 ∧ ((qst P ops st o).2.1 → K (st.put o.dst (qst P ops st o).2.2))
  | _ => (qst P ops st o).1 ∧ ((qst P ops st o).2.1 → K (st.put o.dst (qst P ops st o).2.2))
/-- Under its guard. -/
def sopG (P : Program) (ops : Array Oper) (o : Oper) (st : St) (K : St → Prop) : Prop :=
  match o.guard with
  | none => sop P ops o st K
  | some _ =>
    match o.op with
    | .call cl =>
      match cl.callee, gv ops st o.guard with
      | .value (.func f), some gb => (gb = true → (rdA true st cl.args.toList).1 ∧ (match argsD st (rdA true st cl.args.toList).2 with
            | some (ds, L') => CallVc P f ds st.H (Kc K { st with L := L' } o.dst)
            | none => False)) ∧ (gb = false → K (st.put o.dst (.g false .any)))
      | .builtin .len, some _ => (qst P ops st o).1 ∧ ((qst P ops st o).2.1 → K (st.put o.dst (qst P ops st o).2.2))
      | _, _ => False
    | .alloc _ => False
    | .box _ _ => False
    | .store _ _ _ => False
    | .makeMap _ _ => False
    | .mapUpdate _ _ _ _ => False
    | .range _ _ => False
    | .next _ _ => False
    | _ => (qst P ops st o).1 ∧ ((qst P ops st o).2.1 → K (st.put o.dst (qst P ops st o).2.2))
def sops (P : Program) (ops : Array Oper) : List Oper → St → (St → Prop) → Prop
  | [], st, K => K st
  | o :: r, st, K => sopG P ops o st fun st' => sops P ops r st' K

/-- CODE: what must hold of the state ahead of it, that Q holds of every state behind it. -/
def vc (P : Program) (n : Nat) : Code → St → (Exit → St → Prop) → Prop
  | .skip, st, Q => Q .normal st
  | .label _, st, Q => Q .normal st
  | .seq a b, st, Q => vc P n a st fun
    | .normal, st' => vc P n b st' Q
    | e, st' => Q e st'
  | .cond c x y, st, Q =>
    match rd st c with
    | .d (.v (.bool t)) => ((t = true → vc P n x st Q) ∧ (t = false → vc P n y st Q)) ∨ (st.J = true ∧ ∃ st', (t = true → vc P n x st fun
        | .normal, st1 => St.imp st1 st'
        | e, st1 => Q e st1) ∧ (t = false → vc P n y st fun
        | .normal, st1 => St.imp st1 st'
        | e, st1 => Q e st1) ∧ Q .normal st')
    | _ => False
  | .block id b, st, Q => vc P n b st fun
    | .exit j, st' => if j = id then Q .normal st' else Q (.exit j) st'
    | e, st' => Q e st'
  | .exit id, st, Q => Q (.exit id) st
  | .ret, st, Q => Q .ret st
  | .region _ ops false, st, Q => sops P ops ops.toList st fun st' => Q .normal st'
  | .region _ ops true, st, Q => ∃ k O, orderOk ops k = true ∧ (qrun P ops (ops.toList.take k) { st with O := O }).1 ∧
      ((qrun P ops (ops.toList.take k) { st with O := O }).2.1 → sops P ops (ops.toList.drop k) { (qrun P ops (ops.toList.take k) { st with O := O }).2.2 with O := [] } fun st' => Q .normal st')
  | .loop b, st, Q => LoopOk (vc P n b) st Q
  | _, _, _ => False

theorem sapp_mono {P : Program} {st : St} {d t : Nat} {s x : V} {K K' : St → Prop} (hk : ∀ st, K st → K' st) (h : sapp P st d t s x K) : sapp P st d t s x K' := by
  unfold sapp at h ⊢
  split at h
  · rename_i h1 h2
    split at h
    · rename_i h3
      split at h
      · split at h
        · exact ⟨h.1, hk _ h.2⟩
        · exact h
      · split at h
        · rename_i e; rw [if_pos e]; exact ⟨h.1, hk _ h.2⟩
        · rename_i e; rw [if_neg e]; exact ⟨h.1, h.2.imp (fun q => ⟨q.1, hk _ q.2⟩) (hk _)⟩
      · exact h
    · exact h
  · exact h
theorem sopH_mono {st : St} {d : Option Nat} {o : HO} {x : Nat → V} {K K' : St → Prop} (hk : ∀ st, K st → K' st) (h : sopH st d o x K) : sopH st d o x K' := fun k hn => hk _ (h k hn)
theorem sop_mono {P : Program} {ops : Array Oper} {o : Oper} {st : St} {K K' : St → Prop} (hk : ∀ st, K st → K' st) (h : sop P ops o st K) : sop P ops o st K' := by
  unfold sop at h ⊢
  split at h
  · split at h
    · split at h
      · rename_i hx; rw [if_pos hx]; exact sopH_mono hk h
      · rename_i hx; rw [if_neg hx]; exact hk _ h
    · exact h
  · split at h
    · split at h
      · rename_i hx
        rw [if_pos hx]
        split at h
        · exact sopH_mono hk h
        · exact h
      · rename_i hx; rw [if_neg hx]; exact ⟨h.1, hk _ h.2⟩
    · exact h
  · split at h
    · split at h
      · split at h
        · exact ⟨h.1, hk _ h.2⟩
        · exact h
      · split at h
        · exact ⟨h.1, hk _ h.2⟩
        · exact h
      · exact h
    · exact h
  · split at h
    · exact sopH_mono hk h
    · exact h
  · split at h
    · split at h
      · split at h
        · exact ⟨h.1, hk _ h.2⟩
        · exact h
      · exact h
    · exact h
  · split at h
    · exact sopH_mono hk h
    · exact h
  · split at h
    · split at h
      · exact ⟨fun e => hk _ (h.1 e), fun e => hk _ (h.2 e)⟩
      · exact h
    · exact h
  · split at h
    · exact fun b h1 h2 => hk _ (h b h1 h2)
    · exact ⟨h.1, fun g => hk _ (h.2 g)⟩
  · split at h
    · split at h
      · rename_i hx
        rw [if_pos hx]
        split at h
        · exact ⟨h.1, sopH_mono hk h.2⟩
        · exact h
      · rename_i hx; rw [if_neg hx]; exact ⟨h.1, fun g => hk _ (h.2 g)⟩
    · exact h
  · split at h
    · split at h
      · exact ⟨h.1, sapp_mono hk h.2⟩
      · exact h
    · split at h
      · exact CallVc.mono (fun _ _ h' => hk _ h') h
      · exact h
    · exact ⟨h.1, fun g => hk _ (h.2 g)⟩
  · exact ⟨h.1, fun g => hk _ (h.2 g)⟩
theorem sopG_mono {P : Program} {ops : Array Oper} {o : Oper} {st : St} {K K' : St → Prop} (hk : ∀ st, K st → K' st) (h : sopG P ops o st K) : sopG P ops o st K' := by
  unfold sopG at h ⊢
  split at h
  · exact sop_mono hk h
  · split at h
    · split at h
      · refine ⟨fun e => ⟨(h.1 e).1, ?_⟩, fun e => hk _ (h.2 e)⟩
        have h2 := (h.1 e).2
        split at h2
        · exact CallVc.mono (fun _ _ h' => hk _ h') h2
        · exact h2
      · exact ⟨h.1, fun g => hk _ (h.2 g)⟩
      · exact h.elim
    all_goals first | exact h.elim | exact ⟨h.1, fun g => hk _ (h.2 g)⟩
theorem sops_mono {P : Program} {ops : Array Oper} : ∀ {l : List Oper} {st : St} {K K' : St → Prop}, (∀ st, K st → K' st) → sops P ops l st K → sops P ops l st K'
  | [], _, _, _, hk, h => hk _ h
  | _ :: _, _, _, _, hk, h => sopG_mono (fun _ h' => sops_mono hk h') h
theorem vc_mono {P : Program} {n : Nat} : ∀ {c : Code} {st : St} {Q Q' : Exit → St → Prop}, (∀ e st, Q e st → Q' e st) → vc P n c st Q → vc P n c st Q'
  | .skip, _, _, _, hq, h => hq _ _ h
  | .label _, _, _, _, hq, h => hq _ _ h
  | .seq a b, st, Q, Q', hq, h => vc_mono (c := a) (fun e st' h' => by
    cases e with
    | normal => exact vc_mono (c := b) hq h'
    | _ => exact hq _ _ h') h
  | .cond c x y, st, Q, Q', hq, h => by
    simp only [vc] at h ⊢
    split at h
    · rcases h with h | ⟨hx, st', h1, h2, h3⟩
      · exact .inl ⟨fun e => vc_mono (c := x) hq (h.1 e), fun e => vc_mono (c := y) hq (h.2 e)⟩
      · have hq' : ∀ (e : Exit) (st1 : St), (match e, st1 with | .normal, st1 => St.imp st1 st' | e, st1 => Q e st1 : Prop) → (match e, st1 with | .normal, st1 => St.imp st1 st' | e, st1 => Q' e st1 : Prop) := by
          intro e st1 h
          cases e with
          | normal => exact h
          | _ => exact hq _ _ h
        exact .inr ⟨hx, st', fun e => vc_mono (c := x) hq' (h1 e), fun e => vc_mono (c := y) hq' (h2 e), hq _ _ h3⟩
    · exact h
  | .block id b, st, Q, Q', hq, h => vc_mono (c := b) (fun e st' h' => by
    cases e with
    | exit j =>
      simp only at h' ⊢
      split at h'
      · rename_i e; rw [if_pos e]; exact hq _ _ h'
      · rename_i e; rw [if_neg e]; exact hq _ _ h'
    | _ => exact hq _ _ h') h
  | .exit _, _, _, _, hq, h => hq _ _ h
  | .ret, _, _, _, hq, h => hq _ _ h
  | .region _ ops false, _, _, _, hq, h => sops_mono (fun _ h' => hq _ _ h') h
  | .region _ ops true, _, _, _, hq, h => by
    obtain ⟨k, O, h1, h2, h3⟩ := h
    exact ⟨k, O, h1, h2, fun g => sops_mono (fun _ h' => hq _ _ h') (h3 g)⟩
  | .loop b, _, _, _, hq, h => by
    obtain ⟨α, inv, ok, μ, x, h1, h2, h3⟩ := h
    exact ⟨α, inv, ok, μ, x, h1, h2, fun x hx => vc_mono (c := b) (fun e st' h' => by
      cases e with
      | normal => exact h'
      | _ => exact hq _ _ h') (h3 x hx)⟩
  | .rangeFunc .., _, _, _, _, h => by simp [vc] at h
  | .scope .., _, _, _, _, h => by simp [vc] at h
  | .goto .., _, _, _, _, h => by simp [vc] at h
  | .refuse .., _, _, _, _, h => by simp [vc] at h

/-- All slots that are written are there. -/
def slotsOk (n : Nat) : Code → Bool
  | .region _ ops _ => ops.toList.all (slotOk n)
  | .seq a b => slotsOk n a && slotsOk n b
  | .cond _ a b => slotsOk n a && slotsOk n b
  | .block _ b => slotsOk n b
  | .loop b => slotsOk n b
  | _ => true

section
variable {g : Gx} {st : St} {a : Act} {w : World} {c : Cx} {ops : Array Oper}

theorem Holds.clear (h : Holds g st a w c) (d : Nat) : Holds g (st.clear d) a w c := h.forget d
theorem clear_none (st : St) (d : Nat) : lk d (st.clear d).L = none := by
  simp only [St.clear, lk_demLoc, if_true]
theorem Holds.noO (h : Holds g st a w c) (O : List (Nat × List D)) : Holds g { st with O := O } a w c := ⟨h.defers, h.slots, h.env, h.loc, h.heap, h.agr, h.mono, h.later, h.inj, h.fresh, h.foot, h.old, h.inw⟩

/-- 'append' as an operation. -/
theorem sapp_ok (h : Holds g st a w c) {o : Oper} {cl : Call} (ho : o.op = .call cl) {s x : Operand} {t d : Nat} (hc : cl.callee = .builtin .append) (ha : cl.args.toList = [s, x]) (htt : cl.argTypes.toList = [t, t]) (hd : o.dst = some d) (hdn : d < g.n)
    {K : St → Prop} (hs : sapp g.P st d t (rd st s) (rd st x) K) {Q : Exit → Act → World → Prop} {KK : Act → World → Prop} (hK : ∀ st' a' w' c', Holds g st' a' w' c' → K st' → KK a' w') : o.wp g.P a w KK Q := by
  have e1 : cl.args = #[s, x] := by apply Array.ext'; simpa using ha
  have e2 : cl.argTypes = #[t, t] := by apply Array.ext'; simpa using htt
  have hsv := rd_ok h s
  have hxv := rd_ok h x
  have hrun : ∀ {r w'}, (Builtin.append_ #[t, t] o.type #[a.eval s, a.eval x]).run g.P w = .ok r w' → KK (a.put (some d) r) w' → o.wp g.P a w KK Q := by
    intro r w' hr hk
    unfold Oper.wp
    simp only [execOp, ho, resolve, hc, e1, e2, invoke, builtin, Sem.run_bind, Sem.run_pure, Result.andThen_ok, List.map_toArray, List.map_cons, List.map_nil, hr, Oper.upon, hd]
    exact hk
  unfold sapp at hs
  split at hs
  · rename_i e sz eb sz' f ys ht hx
    have hx' := toD_ok h hxv hx
    have mlen : ∀ n : Nat, 0 < eb → n * eb ≤ 140737488355328 → n ≤ maxLen := fun n h0 hn => by
      have : n ≤ n * eb := Nat.le_mul_of_pos_right _ h0
      unfold maxLen; omega
    split at hs
    · rename_i zs hzs
      split at hs
      · -- a row of the call's own
        rename_i i hi
        split at hs
        · rename_i sz2 fz xs hl
          obtain ⟨⟨hzl, hz, heb, he, rfl, hby⟩, hk⟩ := hs
          have hml := mlen _ heb hby
          rw [hi] at hsv
          generalize hv : V.row i = y at hsv
          generalize a.eval s = sv at *
          cases hsv <;> cases hv
          have h1 := (h.forget i).clear d
          have hiS : (lk i st.L).isSome = true := by rw [hl]; rfl
          have honto : Onto g (({ st with env := demEnv i st.env, L := demLoc i st.L } : St).clear d) w c sz2 fz ys (c.lv i) xs := by
            have sub : ∀ {k}, (lk k ((({ st with env := demEnv i st.env, L := demLoc i st.L } : St).clear d).L)).isSome = true → k ≠ i ∧ (lk k st.L).isSome = true := by
              intro k hk
              have : (lk k (demLoc i st.L)).isSome = true := by
                simp only [St.clear] at hk
                rw [lk_demLoc] at hk
                split at hk
                · cases hk
                · simpa using hk
              rw [lk_demLoc] at this
              split at this
              · cases this
              · rename_i hne; exact ⟨hne, by simpa using this⟩
            cases h.loc i _ hl with
            | nil hv hb => rw [hv]; exact .nil
            | row hz hv hb hh hc hcm hsz hx hr hm =>
              rw [hv]
              refine .own (h.fresh i _ hiS hb).1 (h.fresh i _ hiS hb).2 (fun k hk hbk => ?_) hh hc hcm hsz hx hr hm
              obtain ⟨h1, h2⟩ := sub hk
              exact h1 (h.inj k i _ h2 hiS hbk hb)
          obtain ⟨r, w', c', hr, hh, hcv⟩ := append_row h1 ht hzs hzl hz o.type (clear_none _ d) honto hx' he hby hml
          exact hrun hr (hK _ _ _ _ (hh.put hdn hcv) hk)
        · exact hs.elim
      · rename_i s2 fv xs hi
        split at hs
        -- nil
        rename_i hnil
        obtain ⟨rfl, rfl⟩ := hnil
        obtain ⟨⟨hzl, hz, heb, he, hby⟩, hk⟩ := hs
        rw [hi] at hsv
        have h1 := h.clear d
        have honto : Onto g (st.clear d) w c sz true ys (a.eval s) [] := by
          generalize a.eval s = sv at hsv
          cases hsv with
          | d hr => cases hr with
            | nil => exact .nil
            | sl0 hz => omega
            | sl vals hz => omega
        obtain ⟨r, w', c', hr, hh, hcv⟩ := append_row h1 ht hzs hzl hz o.type (clear_none _ d) honto hx' he (by simpa using hby) (mlen _ heb (by simpa using hby))
        simp only [List.nil_append] at hh hcv
        exact hrun hr (hK _ _ _ _ (hh.put hdn hcv) hk)
        -- a full slice of others
        obtain ⟨⟨hzl, hz, heb, he, rfl, rfl, hby⟩, hk⟩ := hs
        rw [hi] at hsv
        have h1 := h.clear d
        have hrd : Reads c.m (a.eval s) (.sl s2 true xs) := by
          generalize a.eval s = sv at hsv
          cases hsv with
          | d hr => exact hr
        rcases hk with ⟨hys, hk⟩ | hk
        · obtain ⟨r, w', c', hr, hh, hcv⟩ := append_row h1 ht hzs hzl hz o.type (clear_none _ d) (fz := true) (.full hrd rfl hys) hx' he hby (mlen _ heb hby)
          exact hrun hr (hK _ _ _ _ (hh.put hdn hcv) hk)
        · by_cases hys : ys = []
          · subst hys
            obtain ⟨hu, i, hif, _⟩ := tk_slice ht
            have key : (Builtin.append_ #[t, t] o.type #[a.eval s, a.eval x]).run g.P w = .ok (a.eval s) w := by
              generalize a.eval x = xv at hx'
              generalize a.eval s = sv at hrd
              cases hrd with
              | nil => cases hx' with
                | nil => exact run_append_none w t o.type e i hu hif _ _ _ (Nat.le_refl _)
                | sl0 => exact run_append_zero w t o.type e i hu hif _ _ _ (Nat.le_refl _) _ _
                | @sl b off n cp _ _ _ vals hz hn => simp at hn; subst hn; exact run_append_zero w t o.type e i hu hif _ _ _ (Nat.le_refl _) _ _
              | sl0 => cases hx' with
                | nil => exact run_append_none w t o.type e i hu hif _ _ _ (Nat.le_refl _)
                | sl0 => exact run_append_zero w t o.type e i hu hif _ _ _ (Nat.le_refl _) _ _
                | @sl b off n cp _ _ _ vals hz hn => simp at hn; subst hn; exact run_append_zero w t o.type e i hu hif _ _ _ (Nat.le_refl _) _ _
              | @sl b0 off0 n0 cp0 _ _ _ vals0 hz0 hn0 hc0 => cases hx' with
                | nil => exact run_append_none w t o.type e i hu hif _ _ _ hc0
                | sl0 => exact run_append_zero w t o.type e i hu hif _ _ _ hc0 _ _
                | @sl b off n cp _ _ _ vals hz hn => simp at hn; subst hn; exact run_append_zero w t o.type e i hu hif _ _ _ hc0 _ _
            refine hrun key (hK _ _ _ _ ((h1.forget d).put hdn (.d ?_)) hk)
            rw [List.append_nil]
            exact leD_ok (.inr (by
              cases s2 with
              | zero => omega
              | succ n => simp [leD'])) hrd
          · obtain ⟨r, w', c', hr, hh, hcv⟩ := append_row h1 ht hzs hzl hz o.type (clear_none _ d) (fz := true) (.full hrd rfl hys) hx' he hby (mlen _ heb hby)
            have hD : Reads c'.m r (.sl s2 false (xs ++ ys)) := toD_ok hh hcv (by simp [V.toD, lk_cons])
            have hh2 := hh.forget d
            have e0 : demLoc d ((d, LO.row s2 true (xs ++ ys)) :: (st.clear d).L) = demLoc d (st.clear d).L := by simp [demLoc]
            simp only [e0] at hh2
            exact hrun hr (hK _ _ _ _ (hh2.put hdn (.d hD)) hk)
      · exact hs.elim
    · exact hs.elim
  · exact hs.elim
end
end Go.Ab
