/- FROM A LAW's CONTRACT TO ITS ROW: a law answers true and changes nothing that was there. -/
import Derived.Test.YtjnkfcbbgfgmhaaDoorAbSimp
import Derived.Handed
import Derived.Carry
import Derived.OpenShut
import Derived.ProofKit
import Derived.LaidMore
import Derived.Lay
import Derived.Lib.LaidU8
import Derived.Shelf.Vars
import Derived.Stop.Joined
import Derived.SevenTiedAt
set_option linter.unusedSimpArgs false
set_option linter.unusedVariables false
namespace Go.Ab
open Go Go.RowKit Go.ChangeShapes

/-- All memory that there is, as frozen memory. -/
def memOf (w : World) : Mem := fun b o => w.cell? ⟨b, o, none⟩
def noHp : Hp := fun _ => none
/-- A LAW, CALLED. -/
theorem Spec.law {P : Program} {f : FuncId} {ds : List D} (h : Spec P f ds noHp (Ret [.v (.bool true)] noHp)) {w : World} {vs : Array Value} (hg : Glob P (fun _ => False) w) (hv : ReadsA (memOf w) vs.toList ds) :
    Calls P f vs w fun e w' => e = .returned (.bool true) ∧ Below w.heap.size w w' := by
  refine (h.2 (memOf w) (fun _ => False) w vs hg (fun _ _ _ e => e) ⟨(fun k o e => by cases e), (fun k => ⟨fun e => e.elim, (fun e => by cases e)⟩), fun _ e => e.elim⟩ (fun _ e => e.elim) hv).mono ?_
  rintro e w' ⟨v, m', F', rs, H', rfl, ⟨rfl, _⟩, hr, _, _, _, hl, _, _, _⟩
  refine ⟨?_, ⟨hl.os, hl.tape, hl.output, hl.size, fun k hk => hl.block k hk (fun e => e)⟩⟩
  cases hr with
  | one h => cases h with | v _ _ => rfl
theorem keptBut_of_below {w w' : World} (h : Below w.heap.size w w') (may : MemPlace → Prop) : w.keptBut w' may := by
  refine ⟨h.os, h.output, fun i hi => ?_⟩
  rw [h.block i hi]
  cases hh : w.heap[i]? with
  | none => trivial
  | some o =>
    cases o with
    | cells c t fr => exact ⟨rfl, rfl, rfl, fun _ _ => rfl⟩
    | map es clock => exact .inr ⟨rfl, rfl⟩
    | _ => rfl
/-- Each argument's type can be read. -/
def rowedAll (P : Program) (ts : List TypeId) : Bool := ts.all fun t => P.readableRec t && decide (t < P.types.size)
theorem trodAll_carry {H : Type} {enc : TypeId × Value → H} {P : Program} (hl : laidOutB P = true) {W W' : World} (hb : Below W.heap.size W W') :
    ∀ {ts : List TypeId} {vs : List Value} {ds : List (DataW H)} {ps : List MemPlace}, rowedAll P ts = true → DataW.TrodAll enc P W 0 (fun _ => true) true ts vs ds ps → DataW.TrodAll enc P W' 0 (fun b => decide (b < W.heap.size)) true ts vs ds ps
  | [], [], [], _, _, h => h
  | [], _ :: _, _, _, _, h => h.elim
  | [], [], _ :: _, _, _, h => h.elim
  | _ :: _, [], _, _, _, h => h.elim
  | _ :: _, _ :: _, [], _, _, h => h.elim
  | t :: ts, v :: vs, d :: ds, ps, hr, h => by
    have hlt := DataW.TrodAll.lt h
    obtain ⟨p, q, h1, h2, e⟩ := h
    simp only [rowedAll, List.all_cons, Bool.and_eq_true, decide_eq_true_eq] at hr
    exact ⟨p, q, Below.trod hl hr.1.1 hr.1.2 h1 hb (fun x hx => hlt x (by rw [e]; exact List.mem_append_left _ hx)), trodAll_carry hl hb hr.2 h2, e⟩
theorem law_post {H : Type} {enc : TypeId × Value → H} {P : Program} {fn : Func} {s : ChangeSpec} {W W' : World} {args : Array Value} {ds : List (DataW H)} {before : List MemPlace} {tb : TypeId}
    (hl : laidOutB P = true) (hrd : rowedAll P fn.params.toList = true) (hs : s.vars = []) (hW : DataW.Whole enc P fn.params.toList s.vars false W args.toList ds [] before)
    (hfn : s.fn H ds = { results := [.lit (.bool true)], args := ds }) (hres : fn.resultTypes = #[tb]) (htb : P.underlying tb = some .bool) (hb : Below W.heap.size W W') :
    s.post enc P fn false true false false W args (.bool true) W' := by
  have hW' := hW
  obtain ⟨p, q, h1, h2, rfl, _, _⟩ := hW
  rw [hs] at h2
  obtain ⟨_, rfl⟩ := trodVars_none h2
  refine ⟨ds, [], _, [], p, [], hW', ?_, ?_, ?_, keptBut_of_below hb _, fun e => by cases e⟩
  · rw [List.append_nil, hfn, hres]
    exact trodAll_mk1 (shut_bool htb true)
  · rw [List.append_nil, hfn]
    exact trodAll_carry hl hb hrd h1
  · rw [List.append_nil, hfn, hs]
    exact rfl
/-- 'returnsInHanded_of_change_and', the world's shape kept. -/
theorem handed_and_shaped {H : Type} {enc : TypeId × Value → H} {a : Assume} {C : Checked} {os : Os} {f : FuncId} {fn : Func} {s : ChangeSpec} {conds : List PathCond} {apart fresh handsOn again : Bool} {X : World → Array Value → Prop}
    (hX : ∀ (w w' : World) (args : Array Value), w.heap = w'.heap → X w args → X w' args)
    (own : ownKnob C.prog.godebug = none) (started : os.Started) (noInit : C.prog.inits.idxOf? f = none) (hfn : C.prog.funcs[f]? = some fn)
    (witness : ∃ (w : World) (tape : Tape) (i : Input), w.os = os ∧ (w.forCall tape i).Shaped C.prog ∧ i.vars = [] ∧ Input.okWide C.prog (w.forCall tape i) .any w.heap.size f i ∧
      ((s.pre enc C.prog fn conds apart (w.forCall tape i).memory i.args ∧ X (w.forCall tape i).memory i.args) ∧ sizedMet enc C.prog fn (OpenSpec.ofChange s) apart (w.forCall tape i).memory i.args) ∧ a.holds C.prog (lone (Frame.enter C.prog f i.args .normal) [] (w.forCall tape i)))
    (contract : ∀ (W : World) (base : Nat) (args : Array Value) (ds gs : List (DataW H)) (before : List MemPlace),
      (∀ (j : Nat) t v, fn.params[j]? = some t → args[j]? = some v → Value.okWide C.prog W .any base t v) →
      DataW.Whole enc C.prog fn.params.toList s.vars apart W args.toList ds gs before → X W args → W.ShapedOpen C.prog →
      Calls C.prog f args W fun e W' => ∃ v, e = .returned v ∧ s.post enc C.prog fn apart fresh handsOn again W args v W') :
    ReturnsInHanded a C os f .any (fun w args => (s.pre enc C.prog fn conds apart w args ∧ X w args) ∧ sizedMet enc C.prog fn (OpenSpec.ofChange s) apart w args) (s.post enc C.prog fn apart fresh handsOn again) := by
  refine returnsInHanded_of_calls own started noInit witness ?_
  intro w tape i _ hsh _ hok hpre hholds
  obtain ⟨_, _, _, fn', hfn', _, _, _, _, hval⟩ := hok
  have e : fn' = fn := Option.some.inj (hfn'.symm.trans hfn)
  subst e
  obtain ⟨⟨⟨ds, gs, before, hw, hc⟩, hx⟩, hz⟩ := hpre
  have hw' := DataW.Whole.of_heap (w' := w.forCall tape i) (by rfl) hw
  refine (contract (w.forCall tape i) w.heap.size i.args ds gs before hval hw' (hX _ _ _ (by rfl) hx) hsh).mono fun e W' ⟨v, he, hp⟩ => ?_
  subst he
  exact ChangeSpec.post_blind hp

/-- The variable's block, out of its name. -/
theorem var_block {P : Program} {w : World} {n : String} {cs : Array Value} (h : w.var? P n = some cs) {g : Nat} (hg : P.globalNamed n = some g) : g < w.heap.size ∧ ∃ t fr, w.heap[g]? = some (.cells cs t fr) := by
  unfold World.var? at h
  rw [hg] at h
  simp only [Option.bind_some] at h
  cases hh : w.heap[g]? with
  | none => rw [hh] at h; cases h
  | some o =>
    rw [hh] at h
    cases o with
    | cells c t fr => cases h; exact ⟨(Array.getElem?_eq_some_iff.1 hh).1, t, fr, rfl⟩
    | _ => cases h
/-- Of a list of named tables and errors: what a world must hold. -/
theorem Glob.mk_of {P : Program} {w : World}
    (hlen : ∀ g, P.globalNamed "internal/bytealg.MaxLen" = some g → ∃ k, w.cell? ⟨g, 0, none⟩ = some (.int .i64 k))
    (htab : ∀ x ∈ globTabs, ∀ g, P.globalNamed x.1 = some g → Lib.TabIs P w x.1 x.2.1 x.2.2)
    (hvar : ∀ x ∈ globVars, ∀ g, P.globalNamed x = some g → ∃ tp p, w.var? P x = some #[.iface tp p]) : Glob P (fun _ => False) w := by
  refine ⟨fun g hg => ?_, fun x hx g hg => ?_, fun x hx g hg => ?_⟩
  · obtain ⟨k, hk⟩ := hlen g hg
    exact ⟨id, World.block_lt_of_cell? w ⟨g, 0, none⟩ hk, k, hk⟩
  · have h := htab x hx g hg
    obtain ⟨h1, t, fr, h2⟩ := var_block h hg
    exact ⟨id, h1, t, fr, h2⟩
  · obtain ⟨tp, p, h⟩ := hvar x hx g hg
    obtain ⟨h1, t, fr, h2⟩ := var_block h hg
    exact ⟨id, h1, tp, p, t, fr, h2⟩
/-- A listed table of integers. -/
theorem tabIs_of_reads {P : Program} {W : World} {name : String} {k : IntKind} {zs : List Int} {g : Nat} {t e : TypeId} {n : Nat}
    (hg : P.globalNamed name = some g) (hty : (P.globals[g]?).map (·.type) = some t) (ht : P.underlying t = some (.array n e)) (he : P.underlying e = some (.int k)) (hce : P.cellsOf e = 1) (hct : P.cellsOf t = n)
    (h : Lib.VarReads P W name (Lib.tabData k zs)) : Lib.TabIs P W name k zs := by
  obtain ⟨g', t', cs, fuel, p, hg', ht', hvar, hd⟩ := h
  obtain rfl := Option.some.inj (hg.symm.trans hg')
  obtain rfl := Option.some.inj (hty.symm.trans ht')
  unfold Lib.TabIs
  rw [hvar, ← Lib.cells_of_tab ht he hce hct hd]
/-- A listed error of package errors'. -/
theorem ifaceIs_of_reads {P : Program} {W : World} {name nm : String} {d : DataW Unit} {g : Nat} {t : TypeId} {ms : Array (String × TypeId)}
    (hg : P.globalNamed name = some g) (hty : (P.globals[g]?).map (·.type) = some t) (hi : P.underlying t = some (.interface ms)) (h : Lib.VarReads P W name (.iface nm d)) : ∃ tp p, W.var? P name = some #[.iface tp p] := by
  obtain ⟨g', t', cs, fuel, p, hg', ht', hvar, hd⟩ := h
  obtain rfl := Option.some.inj (hg.symm.trans hg')
  obtain rfl := Option.some.inj (hty.symm.trans ht')
  obtain ⟨f1, u, v, hcs, _, _⟩ := iface_of_trod hi hd
  refine ⟨u, v, ?_⟩
  rw [hvar]
  congr 1
  apply Array.ext'
  simpa using hcs
end Go.Ab
