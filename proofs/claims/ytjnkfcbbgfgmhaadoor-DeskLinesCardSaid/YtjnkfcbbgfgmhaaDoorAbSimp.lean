import Derived.Test.YtjnkfcbbgfgmhaaDoorAbFn
import Derived.Attr
import Derived.IntWalk
set_option linter.unusedSimpArgs false
set_option linter.unusedVariables false
namespace Go.Ab
/-- A loop: kept shut. -/
def LoopVc (P : Program) (n : Nat) (b : Code) (st : St) (Q : Exit → St → Prop) : Prop := LoopOk (vc P n b) st Q
/-- A region that draws its order: kept shut. -/
def DrawVc (P : Program) (ops : Array Oper) (st : St) (K : St → Prop) : Prop := ∃ k O, orderOk ops k = true ∧ (qrun P ops (ops.toList.take k) { st with O := O }).1 ∧
      ((qrun P ops (ops.toList.take k) { st with O := O }).2.1 → sops P ops (ops.toList.drop k) { (qrun P ops (ops.toList.take k) { st with O := O }).2.2 with O := [] } K)
/-- Quiet operations one by one. -/
def Qs (P : Program) (ops : Array Oper) : List Oper → St → Prop → (St → Prop) → Prop
  | [], st, G, K => G → K st
  | o :: r, st, G, K => (qst P ops st o).1 ∧ Qs P ops r (st.put o.dst (qst P ops st o).2.2) (G ∧ (qst P ops st o).2.1) K
theorem Qs_qrun {P : Program} {ops : Array Oper} {K : St → Prop} : ∀ {l : List Oper} {st : St} {G : Prop}, Qs P ops l st G K → (qrun P ops l st).1 ∧ (G → (qrun P ops l st).2.1 → K (qrun P ops l st).2.2)
  | [], st, G, h => ⟨trivial, fun g _ => h g⟩
  | o :: r, st, G, h => by
    obtain ⟨h1, h2⟩ := h
    obtain ⟨h3, h4⟩ := Qs_qrun h2
    exact ⟨⟨h1, h3⟩, fun g ⟨g1, g2⟩ => h4 ⟨g, g1⟩ g2⟩
def Dk (P : Program) (ops : Array Oper) (k : Nat) (K : St → Prop) : St → Prop := fun st => sops P ops (ops.toList.drop k) { st with O := [] } K
theorem draw_of {P : Program} {ops : Array Oper} {st : St} {K : St → Prop} (k : Nat) (O : List (Nat × List D)) (hk : orderOk ops k = true)
    (h : Qs P ops (ops.toList.take k) { st with O := O } True (Dk P ops k K)) : DrawVc P ops st K :=
  ⟨k, O, hk, (Qs_qrun h).1, (Qs_qrun h).2 trivial⟩
attribute [go_sem] Qs Dk
/-- What follows, as a list; so the simplifier meets no binder in it. -/
inductive Fr where
  | seq (b : Code)
  | block (id : Nat)
def Ap (P : Program) (n : Nat) : List Fr → (Exit → St → Prop) → Exit → St → Prop
  | [], Q, e, st => Q e st
  | .seq b :: k, Q, e, st =>
    match e with
    | .normal => vc P n b st (Ap P n k Q)
    | e => Ap P n k Q e st
  | .block id :: k, Q, e, st =>
    match e with
    | .exit j => if j = id then Ap P n k Q .normal st else Ap P n k Q (.exit j) st
    | e => Ap P n k Q e st
def Kn (P : Program) (n : Nat) (k : List Fr) (Q : Exit → St → Prop) : St → Prop := fun st => Ap P n k Q .normal st
def So (P : Program) (ops : Array Oper) (l : List Oper) (K : St → Prop) : St → Prop := fun st => sops P ops l st K
def LoopQ {α : Type} (inv : α → St) (ok : α → Prop) (μ : α → Nat) (x : α) (Q : Exit → St → Prop) : Exit → St → Prop := fun e st' =>
  match e with
  | .normal => ∃ y, ok y ∧ μ y < μ x ∧ St.le st' (inv y)
  | e => Q e st'
def FinR (P : Program) (fn : Func) (Q : List D → Hp → Prop) : Exit → St → Prop := fun e st =>
  match e with
  | .normal => ∃ rs H', resAll P { st with L := frzL st.L } fn.results.toList rs ∧ subH H' st.H ∧ Q rs H'
  | .ret => ∃ rs H', resAll P { st with L := frzL st.L } fn.results.toList rs ∧ subH H' st.H ∧ Q rs H'
  | _ => False
def FinQ (P : Program) (fn : Func) (rs : List D) (H' : Hp) : Exit → St → Prop := fun e st =>
  match e with
  | .normal => resAll P { st with L := frzL st.L } fn.results.toList rs ∧ subH H' st.H
  | .ret => resAll P { st with L := frzL st.L } fn.results.toList rs ∧ subH H' st.H
  | _ => False
/-- What the results are. -/
def resD (P : Program) (st : St) : List ResultVar → Option (Prop × List D)
  | [] => some (True, [])
  | .tmp t :: r => match (rd st (.tmp t)).toD st.L, resD P st r with | some d, some (p, ds) => some (p, d :: ds) | _, _ => none
  | .cell q t :: r => match (qld P st t (rd st (.tmp q))).val.toD st.L, resD P st r with | some d, some (p, ds) => some ((qld P st t (rd st (.tmp q))).side ∧ p, d :: ds) | _, _ => none
theorem resD_all {P : Program} {st : St} : ∀ {l : List ResultVar} {p : Prop} {ds : List D}, resD P st l = some (p, ds) → p → resAll P st l ds
  | [], p, ds, h, hp => by simp only [resD, Option.some.injEq, Prod.mk.injEq] at h; rw [← h.2]; trivial
  | .tmp t :: r, p, ds, h, hp => by
    simp only [resD] at h
    split at h
    · rename_i d p' ds' h1 h2
      simp only [Option.some.injEq, Prod.mk.injEq] at h
      obtain ⟨rfl, rfl⟩ := h
      refine ⟨?_, resD_all h2 hp⟩
      simp only [resOk, h1]
      exact .inl rfl
    · cases h
  | .cell q t :: r, p, ds, h, hp => by
    simp only [resD] at h
    split at h
    · rename_i d p' ds' h1 h2
      simp only [Option.some.injEq, Prod.mk.injEq] at h
      obtain ⟨rfl, rfl⟩ := h
      refine ⟨⟨hp.1, ?_⟩, resD_all h2 hp.2⟩
      simp only [h1]
      exact .inl rfl
    · cases h
def FinD (P : Program) (fn : Func) (Q : List D → Hp → Prop) : Exit → St → Prop := fun e st =>
  match e with
  | .normal => match resD P { st with L := frzL st.L } fn.results.toList with | some (p, rs) => p ∧ Q rs st.H | none => False
  | .ret => match resD P { st with L := frzL st.L } fn.results.toList with | some (p, rs) => p ∧ Q rs st.H | none => False
  | _ => False
section
variable (P : Program) (n : Nat) (st : St) (k : List Fr) (Q : Exit → St → Prop)
@[go_sem] theorem Ap_nil (e : Exit) : Ap P n [] Q e st = Q e st := rfl
@[go_sem] theorem Ap_seq_normal (b : Code) : Ap P n (.seq b :: k) Q .normal st = vc P n b st (Ap P n k Q) := rfl
@[go_sem] theorem Ap_seq_ret (b : Code) : Ap P n (.seq b :: k) Q .ret st = Ap P n k Q .ret st := rfl
@[go_sem] theorem Ap_seq_exit (b : Code) (j : Nat) : Ap P n (.seq b :: k) Q (.exit j) st = Ap P n k Q (.exit j) st := rfl
@[go_sem] theorem Ap_block_normal (b : Nat) : Ap P n (.block b :: k) Q .normal st = Ap P n k Q .normal st := rfl
@[go_sem] theorem Ap_block_ret (b : Nat) : Ap P n (.block b :: k) Q .ret st = Ap P n k Q .ret st := rfl
@[go_sem] theorem Ap_block_exit (b : Nat) (j : Nat) : Ap P n (.block b :: k) Q (.exit j) st = if j = b then Ap P n k Q .normal st else Ap P n k Q (.exit j) st := rfl
@[go_sem] theorem Kn_eq : Kn P n k Q st = Ap P n k Q .normal st := rfl
@[go_sem] theorem So_eq (ops : Array Oper) (l : List Oper) (K : St → Prop) : So P ops l K st = sops P ops l st K := rfl
@[go_sem] theorem sops_nil (ops : Array Oper) (K : St → Prop) : sops P ops [] st K = K st := rfl
@[go_sem] theorem sops_cons (ops : Array Oper) (o : Oper) (l : List Oper) (K : St → Prop) : sops P ops (o :: l) st K = sopG P ops o st (So P ops l K) := rfl
@[go_sem] theorem Kc_eq (K : St → Prop) (d : Option Nat) (rs : List D) (H' : Hp) : Kc K st d rs H' = K (({ st with H := H' } : St).put d (retV rs)) := rfl
@[go_sem] theorem vc_loop (b : Code) : vc P n (.loop b) st Q = LoopVc P n b st Q := rfl
@[go_sem] theorem vc_skip : vc P n .skip st Q = Q .normal st := rfl
@[go_sem] theorem vc_seq (a b : Code) : vc P n (.seq a b) st (Ap P n k Q) = vc P n a st (Ap P n (.seq b :: k) Q) := by
  have : (fun | .normal, st' => vc P n b st' (Ap P n k Q) | e, st' => Ap P n k Q e st' : Exit → St → Prop) = Ap P n (.seq b :: k) Q := by
    funext e st'; cases e <;> rfl
  rw [← this]; rfl
@[go_sem] theorem vc_block (id : Nat) (b : Code) : vc P n (.block id b) st (Ap P n k Q) = vc P n b st (Ap P n (.block id :: k) Q) := by
  have : (fun | .exit j, st' => if j = id then Ap P n k Q .normal st' else Ap P n k Q (.exit j) st' | e, st' => Ap P n k Q e st' : Exit → St → Prop) = Ap P n (.block id :: k) Q := by
    funext e st'; cases e <;> rfl
  rw [← this]; rfl
@[go_sem] theorem vc_exit (id : Nat) : vc P n (.exit id) st Q = Q (.exit id) st := rfl
@[go_sem] theorem vc_ret : vc P n .ret st Q = Q .ret st := rfl
@[go_sem] theorem vc_region (id : Nat) (ops : Array Oper) : vc P n (.region id ops false) st (Ap P n k Q) = sops P ops ops.toList st (Kn P n k Q) := rfl
@[go_sem] theorem vc_draw (id : Nat) (ops : Array Oper) : vc P n (.region id ops true) st (Ap P n k Q) = DrawVc P ops st (Kn P n k Q) := rfl
@[go_sem] theorem LoopQ_normal {α : Type} (inv : α → St) (ok : α → Prop) (μ : α → Nat) (x : α) : LoopQ inv ok μ x Q .normal st = ∃ y, ok y ∧ μ y < μ x ∧ St.le st (inv y) := rfl
@[go_sem] theorem LoopQ_ret {α : Type} (inv : α → St) (ok : α → Prop) (μ : α → Nat) (x : α) : LoopQ inv ok μ x Q .ret st = Q .ret st := rfl
@[go_sem] theorem LoopQ_exit {α : Type} (inv : α → St) (ok : α → Prop) (μ : α → Nat) (x : α) (j : Nat) : LoopQ inv ok μ x Q (.exit j) st = Q (.exit j) st := rfl
@[go_sem] theorem FinQ_normal (fn : Func) (rs : List D) (H' : Hp) : FinQ P fn rs H' .normal st = (resAll P { st with L := frzL st.L } fn.results.toList rs ∧ subH H' st.H) := rfl
@[go_sem] theorem FinQ_ret (fn : Func) (rs : List D) (H' : Hp) : FinQ P fn rs H' .ret st = (resAll P { st with L := frzL st.L } fn.results.toList rs ∧ subH H' st.H) := rfl
@[go_sem] theorem FinR_normal (fn : Func) (R : List D → Hp → Prop) : FinR P fn R .normal st = ∃ rs H', resAll P { st with L := frzL st.L } fn.results.toList rs ∧ subH H' st.H ∧ R rs H' := rfl
@[go_sem] theorem FinR_ret (fn : Func) (R : List D → Hp → Prop) : FinR P fn R .ret st = ∃ rs H', resAll P { st with L := frzL st.L } fn.results.toList rs ∧ subH H' st.H ∧ R rs H' := rfl
@[go_sem] theorem FinD_normal (fn : Func) (R : List D → Hp → Prop) : FinD P fn R .normal st = match resD P { st with L := frzL st.L } fn.results.toList with | some (p, rs) => p ∧ R rs st.H | none => False := rfl
@[go_sem] theorem FinD_ret (fn : Func) (R : List D → Hp → Prop) : FinD P fn R .ret st = match resD P { st with L := frzL st.L } fn.results.toList with | some (p, rs) => p ∧ R rs st.H | none => False := rfl
end
attribute [go_sem] resD
/-- FUNCTIONS' CONTRACTS, in the form for the simplifier. X: the slots whose new objects are heap objects. -/
theorem Spec.ofR (X : List Nat) {P : Program} {f : FuncId} {fn : Func} {code : Code} {ds : List D} {H : Hp} {Q : List D → Hp → Prop} (hf : P.funcs[f]? = some fn) (hb : fn.body = some code) (hok : fnOk P fn code ds.length = true)
    (h : vc P fn.ntmps code { env := params ds 0, L := [], H := H, X := X } (Ap P fn.ntmps [] (FinR P fn Q))) : Spec P f ds H Q :=
  Spec.of_vcRX X (J := false) hf hb hok (vc_mono (fun e st hq => by cases e <;> exact hq) h)
theorem Spec.ofD (X : List Nat) {P : Program} {f : FuncId} {fn : Func} {code : Code} {ds : List D} {H : Hp} {Q : List D → Hp → Prop} (hf : P.funcs[f]? = some fn) (hb : fn.body = some code) (hok : fnOk P fn code ds.length = true)
    (h : vc P fn.ntmps code { env := params ds 0, L := [], H := H, X := X } (Ap P fn.ntmps [] (FinD P fn Q))) : Spec P f ds H Q :=
  Spec.of_vcRX X hf hb hok (vc_mono (fun e st hq => by
    have key : (match resD P { st with L := frzL st.L } fn.results.toList with | some (p, rs) => p ∧ Q rs st.H | none => False) → ∃ rs H', resAll P { st with L := frzL st.L } fn.results.toList rs ∧ subH H' st.H ∧ Q rs H' := by
      intro h
      split at h
      · rename_i p rs hr; exact ⟨rs, st.H, resD_all hr h.1, subH.refl _, h.2⟩
      · exact h.elim
    cases e <;> first | exact key hq | exact hq) h)
theorem Spec.of (X : List Nat) {P : Program} {f : FuncId} {fn : Func} {code : Code} {ds rs : List D} {H H' : Hp} (hf : P.funcs[f]? = some fn) (hb : fn.body = some code) (hok : fnOk P fn code ds.length = true)
    (h : vc P fn.ntmps code { env := params ds 0, L := [], H := H, X := X } (Ap P fn.ntmps [] (FinQ P fn rs H'))) : Spec P f ds H (Ret rs H') :=
  Spec.of_vcX X (J := false) hf hb hok (vc_mono (fun e st hq => by cases e <;> exact hq) h)
attribute [go_sem] sopH inX ptrV mapV slcV argsD slNil isC qnilEq qbinN bytesD scalEq scalK keyIn setKey qlk sopG sop qst gv qop rdg rd params lk_cons lk_nil wrapG V.ofV St.put qcall qlen qbin qint qshift qstr qun qidx qidxA eqCells okK fieldAt qfa qf qld qext qpick qconv optI qsl qnil
  rdL rdO rdA qspec fillV placeOf TK.agg qbuild zeroD fillS partsOk qbs Q.on Q.ok Q.no selD selV mkA allD V.cellsOf V.toD toDs retV demEnv demLoc V.dem demL LO.dem upL St.clear St.newL sapp qrun resOk resAll frzL LO.frz
  leEnv leLoc leVs leLO okLO okVs V.okL St.le sb_mk D.cells
attribute [go_sem] Option.getD_some Option.getD_none Option.bind_some Option.bind_none Option.map_some Option.map_none and_self true_and and_true true_implies forall_const reduceIte Bool.false_eq_true
  List.take_succ_cons List.take_zero List.drop_succ_cons List.drop_zero List.take_nil List.drop_nil List.length_cons List.length_nil List.map_cons List.map_nil List.filter_cons List.filter_nil List.head?_cons List.getElem?_cons_succ List.getElem?_cons_zero List.getElem?_nil
  List.cons_append List.nil_append List.append_nil beq_self_eq_true Bool.true_and Bool.and_true Bool.not_true Bool.not_false Bool.and_false Bool.false_and reduceCtorEq
  D.v.injEq D.agg.injEq D.sl.injEq V.d.injEq V.row.injEq V.lp.injEq Value.bool.injEq Value.int.injEq Value.string.injEq List.cons.injEq or_self List.getElem?_toArray beq_true beq_false imp_self Int.natCast_inj Bool.not_eq_eq_eq_not decide_eq_true_eq decide_eq_false_iff_not Decidable.not_not Bool.and_eq_true Bool.or_eq_true Bool.cond_false_right Bool.cond_true_left Bool.not_eq_true Bool.not_eq_false
  Int.toNat_natCast Int.natCast_nonneg Int.ofNat_lt Int.ofNat_le List.length_map false_implies implies_true true_or or_true false_or or_false

theorem loop_of {P : Program} {n : Nat} {b : Code} {st : St} {Q : Exit → St → Prop} {α : Type} (inv : α → St) (ok : α → Prop) (μ : α → Nat) (x : α) (h0 : ok x) (h1 : St.imp st (inv x))
    (hr : ∀ x, ok x → vc P n b (inv x) (Ap P n [] (LoopQ inv ok μ x Q))) : LoopVc P n b st Q :=
  ⟨α, inv, ok, μ, x, h0, h1, fun x hx => by
    refine vc_mono ?_ (hr x hx)
    intro e st' h
    cases e with
    | normal => obtain ⟨y, h1, h2, h3⟩ := h; exact ⟨y, h1, h2, imp_le h3⟩
    | _ => exact h⟩
@[go_sem] theorem getD_map {α : Type} (f : α → D) (l : List α) (k : Nat) (h : k < l.length) : (l.map f).getD k default = f l[k] := by
  rw [List.getD_eq_getElem?_getD, List.getElem?_map, List.getElem?_eq_getElem h]; rfl
theorem wrap_i64 {n : Int} (h1 : -9223372036854775808 ≤ n) (h2 : n ≤ 9223372036854775807) : IntKind.wrap .i64 n = n := IntWalk.i64_in n ⟨h1, h2⟩
@[go_sem] theorem baEq (a b : List UInt8) : ((⟨a.toArray⟩ : ByteArray) = ⟨b.toArray⟩) = (a = b) := by simp
@[go_sem] theorem strsEq (a b : List (List UInt8)) : (a.map D.str = b.map D.str) = (a = b) := by
  apply propext; constructor
  · intro h
    have : Function.Injective D.str := fun x y e => by simpa using e
    exact (List.map_inj_right (fun x y e => this e)).1 h
  · intro h; rw [h]
@[go_sem] theorem strsSnoc (a : List (List UInt8)) (s : List UInt8) : a.map D.str ++ [D.str s] = (a ++ [s]).map D.str := by simp
@[go_sem] theorem subH_self (H : Hp) : subH H H = True := eq_true (subH.refl H)
attribute [go_sem] Option.isSome_some Option.isSome_none not_true_eq_false not_false_iff Nat.mul_one ne_eq not_false_eq_true false_and Option.some.injEq LO.row.injEq LO.box.injEq List.headD_cons List.replicate_zero List.replicate_succ List.set_cons_zero List.set_cons_succ List.set_nil exists_const
@[go_sem] theorem natCast_lit (n : Nat) : @Nat.cast Int instNatCastInt (no_index (OfNat.ofNat n)) = OfNat.ofNat n := rfl
@[go_sem] theorem maxLen_eq : maxLen = 9223372036854775807 := rfl
attribute [go_sem] Nat.zero_le
attribute [go_sem] upd_upd List.getD_cons_zero List.getD_cons_succ List.getD_nil upd_same List.append_eq Option.isNone_some Option.isNone_none Bool.or_true Bool.true_or Bool.or_false Bool.false_or List.flatMap_cons List.flatMap_nil
/-- What is answered says no less than what is told. -/
def FinL (P : Program) (fn : Func) (rs : List D) (H' : Hp) : Exit → St → Prop := fun e st =>
  match e with
  | .normal => match resD P { st with L := frzL st.L } fn.results.toList with | some (p, ds) => p ∧ leDs ds rs ∧ subH H' st.H | none => False
  | .ret => match resD P { st with L := frzL st.L } fn.results.toList with | some (p, ds) => p ∧ leDs ds rs ∧ subH H' st.H | none => False
  | _ => False
theorem resD_le {P : Program} {st : St} : ∀ {l : List ResultVar} {p : Prop} {ds rs : List D}, resD P st l = some (p, ds) → p → leDs ds rs → resAll P st l rs
  | [], p, ds, rs, h, hp, hl => by
    simp only [resD, Option.some.injEq, Prod.mk.injEq] at h
    obtain ⟨_, rfl⟩ := h
    cases rs with
    | nil => trivial
    | cons => simp [leDs] at hl
  | .tmp t :: r, p, ds, rs, h, hp, hl => by
    simp only [resD] at h
    split at h
    · rename_i d p' ds' h1 h2
      simp only [Option.some.injEq, Prod.mk.injEq] at h
      obtain ⟨rfl, rfl⟩ := h
      cases rs with
      | nil => simp [leDs] at hl
      | cons e rs =>
        simp only [leDs] at hl
        refine ⟨?_, resD_le h2 hp hl.2⟩
        simp only [resOk, h1]
        exact hl.1
    · cases h
  | .cell q t :: r, p, ds, rs, h, hp, hl => by
    simp only [resD] at h
    split at h
    · rename_i d p' ds' h1 h2
      simp only [Option.some.injEq, Prod.mk.injEq] at h
      obtain ⟨rfl, rfl⟩ := h
      cases rs with
      | nil => simp [leDs] at hl
      | cons e rs =>
        simp only [leDs] at hl
        refine ⟨⟨hp.1, ?_⟩, resD_le h2 hp.2 hl.2⟩
        simp only [h1]
        exact hl.1
    · cases h
section
variable (P : Program) (st : St)
@[go_sem] theorem FinL_normal (fn : Func) (rs : List D) (H' : Hp) : FinL P fn rs H' .normal st = match resD P { st with L := frzL st.L } fn.results.toList with | some (p, ds) => p ∧ leDs ds rs ∧ subH H' st.H | none => False := rfl
@[go_sem] theorem FinL_ret (fn : Func) (rs : List D) (H' : Hp) : FinL P fn rs H' .ret st = match resD P { st with L := frzL st.L } fn.results.toList with | some (p, ds) => p ∧ leDs ds rs ∧ subH H' st.H | none => False := rfl
end
/-- One answer, told up to what 'leDs' lets. -/
theorem Spec.ofLG (X : List Nat) (J : Bool) {P : Program} {f : FuncId} {fn : Func} {code : Code} {ds rs : List D} {H H' : Hp} (hf : P.funcs[f]? = some fn) (hb : fn.body = some code) (hok : fnOk P fn code ds.length = true)
    (h : vc P fn.ntmps code { env := params ds 0, L := [], H := H, X := X, J := J } (Ap P fn.ntmps [] (FinL P fn rs H'))) : Spec P f ds H (Ret rs H') :=
  Spec.of_vcX X (J := J) hf hb hok (vc_mono (fun e st hq => by
    have key : (match resD P { st with L := frzL st.L } fn.results.toList with | some (p, ds) => p ∧ leDs ds rs ∧ subH H' st.H | none => False) → resAll P { st with L := frzL st.L } fn.results.toList rs ∧ subH H' st.H := by
      intro h
      split at h
      · rename_i p ds hr; exact ⟨resD_le hr h.1 h.2.1, h.2.2⟩
      · exact h.elim
    cases e <;> first | exact key hq | exact hq) h)
theorem Spec.ofL (X : List Nat) {P : Program} {f : FuncId} {fn : Func} {code : Code} {ds rs : List D} {H H' : Hp} (hf : P.funcs[f]? = some fn) (hb : fn.body = some code) (hok : fnOk P fn code ds.length = true)
    (h : vc P fn.ntmps code { env := params ds 0, L := [], H := H, X := X } (Ap P fn.ntmps [] (FinL P fn rs H'))) : Spec P f ds H (Ret rs H') := Spec.ofLG X false hf hb hok h
theorem Spec.ofLJ (X : List Nat) {P : Program} {f : FuncId} {fn : Func} {code : Code} {ds rs : List D} {H H' : Hp} (hf : P.funcs[f]? = some fn) (hb : fn.body = some code) (hok : fnOk P fn code ds.length = true)
    (h : vc P fn.ntmps code { env := params ds 0, L := [], H := H, X := X, J := true } (Ap P fn.ntmps [] (FinL P fn rs H'))) : Spec P f ds H (Ret rs H') := Spec.ofLG X true hf hb hok h
/-- Behind a branch all is as in state st'. -/
def JoinQ (st' : St) (Q : Exit → St → Prop) : Exit → St → Prop := fun e st1 =>
  match e with
  | .normal => St.le st1 st'
  | e => Q e st1
@[go_sem] theorem JoinQ_normal (st' st1 : St) (Q : Exit → St → Prop) : JoinQ st' Q .normal st1 = St.le st1 st' := rfl
@[go_sem] theorem JoinQ_ret (st' st1 : St) (Q : Exit → St → Prop) : JoinQ st' Q .ret st1 = Q .ret st1 := rfl
@[go_sem] theorem JoinQ_exit (st' st1 : St) (Q : Exit → St → Prop) (j : Nat) : JoinQ st' Q (.exit j) st1 = Q (.exit j) st1 := rfl
/-- A branch: kept shut. -/
def CondVc (P : Program) (n : Nat) (t : Bool) (x y : Code) (st : St) (Q : Exit → St → Prop) : Prop :=
  ((t = true → vc P n x st Q) ∧ (t = false → vc P n y st Q)) ∨ (st.J = true ∧ ∃ st', (t = true → vc P n x st fun
        | .normal, st1 => St.imp st1 st'
        | e, st1 => Q e st1) ∧ (t = false → vc P n y st fun
        | .normal, st1 => St.imp st1 st'
        | e, st1 => Q e st1) ∧ Q .normal st')
theorem vc_condC (P : Program) (n : Nat) (st : St) (Q : Exit → St → Prop) (c : Operand) (x y : Code) : vc P n (.cond c x y) st Q = match rd st c with
    | .d (.v (.bool t)) => CondVc P n t x y st Q
    | _ => False := rfl
theorem CondVc_off {P : Program} {n : Nat} {st : St} {Q : Exit → St → Prop} {t : Bool} {x y : Code} (h : st.J = false) : CondVc P n t x y st Q = ((t = true → vc P n x st Q) ∧ (t = false → vc P n y st Q)) := by
  unfold CondVc
  rw [h]
  simp
/-- The same, open, where branches don't meet. -/
theorem vc_cond (P : Program) (n : Nat) (env : List (Nat × V)) (L : List (Nat × LO)) (H : Hp) (O : List (Nat × List D)) (X : List Nat) (Q : Exit → St → Prop) (c : Operand) (x y : Code) : vc P n (.cond c x y) ⟨env, L, H, O, X, false⟩ Q = match rd ⟨env, L, H, O, X, false⟩ c with
    | .d (.v (.bool t)) => (t = true → vc P n x ⟨env, L, H, O, X, false⟩ Q) ∧ (t = false → vc P n y ⟨env, L, H, O, X, false⟩ Q)
    | _ => False := by
  rw [vc_condC]
  split
  · exact CondVc_off rfl
  · rfl
theorem cond_of {P : Program} {n : Nat} {b : Bool} {x y : Code} {st : St} {Q : Exit → St → Prop} (h1 : b = true → vc P n x st Q) (h2 : b = false → vc P n y st Q) : CondVc P n b x y st Q := .inl ⟨h1, h2⟩
@[go_sem] theorem CondVc_true (P : Program) (n : Nat) (env : List (Nat × V)) (L : List (Nat × LO)) (H : Hp) (O : List (Nat × List D)) (X : List Nat) (Q : Exit → St → Prop) (x y : Code) : CondVc P n true x y ⟨env, L, H, O, X, false⟩ Q = vc P n x ⟨env, L, H, O, X, false⟩ Q := by
  rw [CondVc_off rfl]; simp
@[go_sem] theorem CondVc_false (P : Program) (n : Nat) (env : List (Nat × V)) (L : List (Nat × LO)) (H : Hp) (O : List (Nat × List D)) (X : List Nat) (Q : Exit → St → Prop) (x y : Code) : CondVc P n false x y ⟨env, L, H, O, X, false⟩ Q = vc P n y ⟨env, L, H, O, X, false⟩ Q := by
  rw [CondVc_off rfl]; simp
/-- Branches that meet again: in the state st'. -/
theorem cond_join {P : Program} {n : Nat} {b : Bool} {x y : Code} {st : St} {k : List Fr} {Q : Exit → St → Prop} (st' : St) (hm : st.J = true) (h1 : b = true → vc P n x st (Ap P n [] (JoinQ st' (Ap P n k Q)))) (h2 : b = false → vc P n y st (Ap P n [] (JoinQ st' (Ap P n k Q))))
    (h3 : Ap P n k Q .normal st') : CondVc P n b x y st (Ap P n k Q) := by
  have key : ∀ (e : Exit) (st1 : St), Ap P n [] (JoinQ st' (Ap P n k Q)) e st1 → (match e, st1 with | .normal, st1 => St.imp st1 st' | e, st1 => Ap P n k Q e st1 : Prop) := by
    intro e st1 h
    cases e with
    | normal => exact imp_le h
    | _ => exact h
  exact .inr ⟨hm, st', fun e => vc_mono key (h1 e), fun e => vc_mono key (h2 e), h3⟩
attribute [go_sem] decide_true decide_false
section
variable (a b : D) (r s : List D) (x y : Value) (n m : Nat) (f k : Bool)
@[go_sem] theorem leD_eq : leD a b = (a = b ∨ leD' a b) := rfl
@[go_sem] theorem leD'_vv : leD' (.v x) (.v y) = (x = y) := by simp [leD']
@[go_sem] theorem leD'_vs : leD' (.v x) (.sl n f s) = False := by simp [leD']
@[go_sem] theorem leD'_va : leD' (.v x) (.agg s) = False := by simp [leD']
@[go_sem] theorem leD'_sv : leD' (.sl n f r) (.v y) = False := by simp [leD']
@[go_sem] theorem leD'_ss : leD' (.sl n f r) (.sl m k s) = ((n = 0 ∧ r = [] ∧ s = []) ∨ (n = m ∧ (k = true → f = true) ∧ (r = s ∨ leDs r s))) := by simp only [leD']
@[go_sem] theorem leD'_sa : leD' (.sl n f r) (.agg s) = False := by simp [leD']
@[go_sem] theorem leD'_av : leD' (.agg r) (.v y) = False := by simp [leD']
@[go_sem] theorem leD'_as : leD' (.agg r) (.sl m k s) = False := by simp [leD']
@[go_sem] theorem leD'_aa : leD' (.agg r) (.agg s) = (r = s ∨ leDs r s) := by simp only [leD']
@[go_sem] theorem leDs_nn : leDs [] [] = True := by simp [leDs]
@[go_sem] theorem leDs_nc : leDs [] (b :: s) = False := by simp [leDs]
@[go_sem] theorem leDs_cn : leDs (a :: r) [] = False := by simp [leDs]
@[go_sem] theorem leDs_cc : leDs (a :: r) (b :: s) = ((a = b ∨ leD' a b) ∧ leDs r s) := by simp only [leDs]
@[go_sem] theorem leD_v : (D.v x = b ∨ leD' (.v x) b) = (D.v x = b) := by
  apply propext
  constructor
  · rintro (h | h)
    · exact h
    · cases b <;> simp [leD'] at h ⊢
      exact h
  · exact .inl
@[go_sem] theorem leV_d : leV (.d a) (.d b) = (a = b ∨ leD' a b) := by simp [leV, leD, V.d.injEq]
@[go_sem] theorem leV_any (v : V) : leV v .any = True := by simp [leV]
@[go_sem] theorem leV_row (i j : Nat) : leV (.row i) (.row j) = (i = j) := by simp [leV]
@[go_sem] theorem leV_lp (i j o p : Nat) : leV (.lp i o) (.lp j p) = (i = j ∧ o = p) := by simp [leV]
@[go_sem] theorem leV_self (v : V) : leV v v = True := by simp [leV]
end
/-- What is answered says no less than something of which Q holds. -/
def FinLR (P : Program) (fn : Func) (Q : List D → Hp → Prop) : Exit → St → Prop := fun e st =>
  match e with
  | .normal => match resD P { st with L := frzL st.L } fn.results.toList with | some (p, ds) => p ∧ ∃ rs H', leDs ds rs ∧ subH H' st.H ∧ Q rs H' | none => False
  | .ret => match resD P { st with L := frzL st.L } fn.results.toList with | some (p, ds) => p ∧ ∃ rs H', leDs ds rs ∧ subH H' st.H ∧ Q rs H' | none => False
  | _ => False
section
variable (P : Program) (st : St)
@[go_sem] theorem FinLR_normal (fn : Func) (Q : List D → Hp → Prop) : FinLR P fn Q .normal st = match resD P { st with L := frzL st.L } fn.results.toList with | some (p, ds) => p ∧ ∃ rs H', leDs ds rs ∧ subH H' st.H ∧ Q rs H' | none => False := rfl
@[go_sem] theorem FinLR_ret (fn : Func) (Q : List D → Hp → Prop) : FinLR P fn Q .ret st = match resD P { st with L := frzL st.L } fn.results.toList with | some (p, ds) => p ∧ ∃ rs H', leDs ds rs ∧ subH H' st.H ∧ Q rs H' | none => False := rfl
end
theorem Spec.ofLRG (X : List Nat) (J : Bool) {P : Program} {f : FuncId} {fn : Func} {code : Code} {ds : List D} {H : Hp} {Q : List D → Hp → Prop} (hf : P.funcs[f]? = some fn) (hb : fn.body = some code) (hok : fnOk P fn code ds.length = true)
    (h : vc P fn.ntmps code { env := params ds 0, L := [], H := H, X := X, J := J } (Ap P fn.ntmps [] (FinLR P fn Q))) : Spec P f ds H Q :=
  Spec.of_vcRX X (J := J) hf hb hok (vc_mono (fun e st hq => by
    have key : (match resD P { st with L := frzL st.L } fn.results.toList with | some (p, ds) => p ∧ ∃ rs H', leDs ds rs ∧ subH H' st.H ∧ Q rs H' | none => False) → ∃ rs H', resAll P { st with L := frzL st.L } fn.results.toList rs ∧ subH H' st.H ∧ Q rs H' := by
      intro h
      split at h
      · rename_i p ds hr
        obtain ⟨hp, rs, H', h1, h2, h3⟩ := h
        exact ⟨rs, H', resD_le hr hp h1, h2, h3⟩
      · exact h.elim
    cases e <;> first | exact key hq | exact hq) h)
theorem Spec.ofLR (X : List Nat) {P : Program} {f : FuncId} {fn : Func} {code : Code} {ds : List D} {H : Hp} {Q : List D → Hp → Prop} (hf : P.funcs[f]? = some fn) (hb : fn.body = some code) (hok : fnOk P fn code ds.length = true)
    (h : vc P fn.ntmps code { env := params ds 0, L := [], H := H, X := X } (Ap P fn.ntmps [] (FinLR P fn Q))) : Spec P f ds H Q := Spec.ofLRG X false hf hb hok h
theorem Spec.ofLRJ (X : List Nat) {P : Program} {f : FuncId} {fn : Func} {code : Code} {ds : List D} {H : Hp} {Q : List D → Hp → Prop} (hf : P.funcs[f]? = some fn) (hb : fn.body = some code) (hok : fnOk P fn code ds.length = true)
    (h : vc P fn.ntmps code { env := params ds 0, L := [], H := H, X := X, J := true } (Ap P fn.ntmps [] (FinLR P fn Q))) : Spec P f ds H Q := Spec.ofLRG X true hf hb hok h
end Go.Ab
