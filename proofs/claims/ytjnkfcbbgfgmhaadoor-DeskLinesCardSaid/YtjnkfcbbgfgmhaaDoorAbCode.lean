/- THE ABSTRACT LAYER, PART 14: the verification conditions suffice; a function's contract from its body's. -/
import Derived.Test.YtjnkfcbbgfgmhaaDoorAbRun
import Derived.Lib.OthersKept
set_option linter.unusedSimpArgs false
set_option linter.unusedVariables false
namespace Go.Ab
open Go

section
variable {g : Gx} {st : St} {a : Act} {w : World} {c : Cx} {ops : Array Oper}

/-- What an operation is owed in whatever continues it. -/
def OpK (g : Gx) (ops : Array Oper) (o : Oper) (a : Act) (w : World) (K : St → Prop) : Prop :=
  ∀ (KK : Act → World → Prop) (Q : Exit → Act → World → Prop), (∀ st' a' w' c', Holds g st' a' w' c' → K st' → KK a' w') → o.wp g.P a w KK Q

theorem wpOp_plain {i : Nat} {o : Oper} (hi : ops[i]? = some o) (hg : o.guard = none) {Q : Exit → Act → World → Prop} {KK : Act → World → Prop} (h : o.wp g.P a w KK Q) : wpOp g.P ops Q i KK a w := by
  unfold wpOp
  simp only [hi]
  have : Region.wanted o (yielded ops a.tmps) = true := by unfold Region.wanted; rw [hg]
  rw [if_pos this]
  exact .inl h

theorem sop_quiet (h : Holds g st a w c) {i : Nat} {o : Oper} (hi : ops[i]? = some o) (hsl : slotOk g.n o = true) {K : St → Prop} (hs : (qst g.P ops st o).1 ∧ ((qst g.P ops st o).2.1 → K (st.put o.dst (qst g.P ops st o).2.2)))
    {Q : Exit → Act → World → Prop} {KK : Act → World → Prop} (hK : ∀ st' a' w' c', Holds g st' a' w' c' → K st' → KK a' w') : wpOp g.P ops Q i KK a w :=
  qst_wp h hi hsl hs.1 fun a' w' c' hh hg => hK _ a' w' c' hh (hs.2 hg)

theorem argsD_ok (h : Holds g st a w c) {xs : List V} {ds : List D} {L' : List (Nat × LO)} (he : argsD st xs = some (ds, L')) :
    ∃ c', Holds g { st with L := L' } a w c' ∧ Cx.le c c' st.L L' ∧ toDs L' xs = some ds := by
  unfold argsD at he
  split at he
  · rename_i es hes
    cases he
    exact ⟨c, h, .refl _ _, hes⟩
  · split at he
    · rename_i es hes
      cases he
      obtain ⟨c', h1, h2⟩ := h.freeze
      exact ⟨c', h1, h2, hes⟩
    · cases he

/-- A call in the text's order. -/
theorem call_ok (h : Holds g st a w c) {o : Oper} {cl : Call} {f : FuncId} (ho : o.op = .call cl) (hc : cl.callee = .value (.func f)) (hsl : slotOk g.n o = true) {ds : List D} {L' : List (Nat × LO)}
    {xs : List V} (hlen : xs.length = cl.args.toList.length) (hx : ∀ (j : Nat) v x, (cl.args.toList.map a.eval)[j]? = some v → xs[j]? = some x → CV c st.L v x) (hd : argsD st xs = some (ds, L')) {K : St → Prop} (hcv : CallVc g.P f ds st.H (Kc K { st with L := L' } o.dst))
    {Q : Exit → Act → World → Prop} {KK : Act → World → Prop} (hK : ∀ st' a' w' c', Holds g st' a' w' c' → K st' → KK a' w') : o.wp g.P a w KK Q := by
  obtain ⟨es, QQ, hle, hs, hk⟩ := hcv
  obtain ⟨c1, h1, hc1, hd1⟩ := argsD_ok h hd
  have hv : ReadsA c1.m (cl.args.map a.eval).toList es := by
    rw [Array.toList_map]
    exact leDs_args hle (toDs_ok h1 (by rw [List.length_map]; exact hlen.symm) (fun j v x hv hx' => (hx j v x hv hx').mono hc1) hd1)
  have hrun : (execOp a.eval o).run g.P w = .ok (.enter f (cl.args.map a.eval)) w := by
    simp only [execOp, ho, resolve, hc, Act.eval, Deferred.ofValue, invoke, Sem.run_bind, Sem.run_pure, Result.andThen_ok, callFunc_run hs.1, Array.append_empty, Array.empty_append]
  unfold Oper.wp
  rw [hrun]
  refine (h1.call hs hv).mono ?_
  rintro e w' ⟨v, c', rs, H', rfl, hq, hh, _, hcv⟩
  have hk := hk rs H' hq
  cases hdst : o.dst with
  | none => rw [hdst] at hk; exact hK _ _ _ c' hh hk
  | some d =>
    rw [hdst] at hk
    have : d < g.n := by simpa [slotOk, hdst] using hsl
    exact hK _ _ _ c' (hh.put this hcv) hk

theorem run_storeVar_box {P : Program} {w : World} {t : TypeId} {ag sz} (hk : ldk P t = some (ag, sz)) (b off : Nat) (arr : Array Value) (ty : TypeId) (hh : w.heap[b]? = some (.cells arr ty (0, 0))) (v : Value)
    (hn : v.cells.toList.length = sz) (hle : off + sz ≤ arr.size) (h1 : ∀ u ∈ v.cells.toList, u.oneCell' = true) :
    (Instr.storeAt t (.pointer (some ⟨b, off, none⟩)) v).run P w = .ok () (w.setRow b (arr.toList.take off ++ v.cells.toList ++ arr.toList.drop (off + sz)).toArray) := by
  obtain ⟨_, hs⟩ := ldk_agg hk w
  have hst := run_storeCells_at P b off ty v.cells.toList 0 arr w hh (by rw [hn]; simpa using hle) h1
  simp only [Nat.add_zero, hn] at hst
  have hsz : v.cells.size = sz := by simpa using hn
  simp [Instr.storeAt, Instr.sureAddr, storeVar, hs, hsz, hst]

theorem Holds.putO (h : Holds g st a w c) {o : Oper} (hsl : slotOk g.n o = true) {v : Value} {x : V} (hv : CV c st.L v x) : Holds g (st.put o.dst x) (a.put o.dst v) w c := by
  cases hd : o.dst with
  | none => exact h
  | some d => exact h.put (by simpa [slotOk, hd] using hsl) hv

/-- A new heap object by an operation. -/
theorem sopH_ok (h : Holds g st a w c) {i : Nat} {o : Oper} (hi : ops[i]? = some o) (hg : o.guard = none) (hsl : slotOk g.n o = true) {K : St → Prop} {ho : HO} {x : Nat → V} (hs : sopH st o.dst ho x K)
    {ob : Obj} {v : Value} (hrun : (execOp a.eval o).run g.P w = .ok (.value v) (w.alloc ob)) (hho : ∀ w', w'.heap[w.heap.size]? = some ob → HOk c.m w' w.heap.size ho) (hv : ∀ c', CV c' st.L v (x w.heap.size))
    {Q : Exit → Act → World → Prop} {KK : Act → World → Prop} (hK : ∀ st' a' w' c', Holds g st' a' w' c' → K st' → KK a' w') : wpOp g.P ops Q i KK a w := by
  refine wpOp_plain hi hg ?_
  obtain ⟨hn, c', hh, _, _⟩ := h.newH ob hho
  unfold Oper.wp
  rw [hrun]
  exact hK _ _ _ c' (hh.putO hsl (hv c')) (hs _ hn)

theorem slNil_ok (h : Holds g st a w c) {op : BinOp} {t : TypeId} {x y : Operand} {neg : Bool} {sz : Nat} {xs : List D} (he : slNil g.P st op t x y = some (neg, sz, xs)) :
    ∃ b : Bool, (b = true → xs = []) ∧ (sz = 0 → b = true) ∧ (eqGuard op t x y (a.eval x) (a.eval y) >>= fun _ => binOp op t (a.eval x) (a.eval y)).run g.P w = .ok (.bool (if neg = true then !b else b)) w := by
  have key : ∀ (ad : Option Addr) (len cap : Nat), (P : TypeDesc) → g.P.underlying t = some P → (∃ e, P = .slice e) → a.eval x = .slice ad len cap → a.eval y = .slice none 0 0 → ∀ op neg, (op = .eql ∧ neg = false ∨ op = .neq ∧ neg = true) →
      (eqGuard op t x y (a.eval x) (a.eval y) >>= fun _ => binOp op t (a.eval x) (a.eval y)).run g.P w = .ok (.bool (if neg = true then !ad.isNone else ad.isNone)) w := by
    intro ad len cap P hu ⟨e, hP⟩ h1 h2 op neg hop
    subst hP
    rw [h1, h2]
    have hq : (Op.equal t (.slice ad len cap) (.slice none 0 0)).run g.P w = .ok ad.isNone w := by
      show (Op.equalIn (9999 + 1) t _ _).run g.P w = _
      rw [Op.equalIn]
      simp only [Sem.run_bind, run_underlying hu, Result.andThen_ok]
      cases ad <;> rfl
    have hgd : (eqGuard op t x y (.slice ad len cap) (.slice none 0 0)).run g.P w = .ok () w := by
      unfold eqGuard
      rcases hop with ⟨rfl, _⟩ | ⟨rfl, _⟩ <;> rfl
    rw [Sem.run_bind, hgd, Result.andThen_ok]
    rcases hop with ⟨rfl, rfl⟩ | ⟨rfl, rfl⟩
    · simp only [binOp, Sem.run_bind, hq, Result.andThen_ok]; rfl
    · simp only [binOp, Sem.run_bind, hq, Result.andThen_ok]; rfl
  have side : ∀ (v : Value), CV c st.L v (rd st x) → (∀ {f}, rd st x = .d (.sl sz f xs) → True) → ((∃ f, rd st x = .d (.sl sz f xs)) ∨ (∃ i sz' fz, rd st x = .row i ∧ lk i st.L = some (.row sz' fz xs) ∧ sz = 1)) →
      ∃ ad len cap, v = .slice ad len cap ∧ (ad.isNone = true → xs = []) ∧ (sz = 0 → ad.isNone = true) := by
    intro v hv _ hx
    rcases hx with ⟨f, hx⟩ | ⟨i, sz', fz, hx, hl, rfl⟩
    · rw [hx] at hv
      cases hv with
      | d hr => cases hr with
        | nil => exact ⟨none, 0, 0, rfl, fun _ => rfl, fun _ => rfl⟩
        | sl0 hz => exact ⟨_, _, _, rfl, fun e => by simp at e, fun e => by omega⟩
        | sl vals hz => exact ⟨_, _, _, rfl, fun e => by simp at e, fun e => by omega⟩
    · rw [hx] at hv
      generalize hy : V.row i = y at hv
      cases hv <;> cases hy
      cases h.loc i _ hl with
      | nil hv' hb => exact ⟨none, 0, 0, hv', fun _ => rfl, fun _ => rfl⟩
      | row hz hv' => exact ⟨_, _, _, hv', fun e => by simp at e, fun e => by omega⟩
  unfold slNil at he
  split at he
  · rename_i e sz' eb ht
    obtain ⟨hu, _⟩ := tk_slice ht
    have : ∃ (n : Nat), (neg = false ∧ n = 0) ∧ ((∃ f, rd st x = .d (.sl sz f xs)) ∨ (∃ i sz' fz, rd st x = .row i ∧ lk i st.L = some (.row sz' fz xs) ∧ sz = 1)) := by
      split at he
      · rename_i hx; cases he; exact ⟨0, ⟨rfl, rfl⟩, .inl ⟨_, hx⟩⟩
      · rename_i hx
        split at he
        · rename_i hl; cases he; exact ⟨0, ⟨rfl, rfl⟩, .inr ⟨_, _, _, hx, hl, rfl⟩⟩
        · cases he
      · cases he
    obtain ⟨_, ⟨rfl, _⟩, hx⟩ := this
    obtain ⟨ad, len, cap, h1, h2, h3⟩ := side _ (rd_ok h x) (fun _ => trivial) hx
    exact ⟨ad.isNone, h2, h3, key ad len cap _ hu ⟨_, rfl⟩ h1 rfl _ false (.inl ⟨rfl, rfl⟩)⟩
  · rename_i e sz' eb ht
    obtain ⟨hu, _⟩ := tk_slice ht
    have : ∃ (n : Nat), (neg = true ∧ n = 0) ∧ ((∃ f, rd st x = .d (.sl sz f xs)) ∨ (∃ i sz' fz, rd st x = .row i ∧ lk i st.L = some (.row sz' fz xs) ∧ sz = 1)) := by
      split at he
      · rename_i hx; cases he; exact ⟨0, ⟨rfl, rfl⟩, .inl ⟨_, hx⟩⟩
      · rename_i hx
        split at he
        · rename_i hl; cases he; exact ⟨0, ⟨rfl, rfl⟩, .inr ⟨_, _, _, hx, hl, rfl⟩⟩
        · cases he
      · cases he
    obtain ⟨_, ⟨rfl, _⟩, hx⟩ := this
    obtain ⟨ad, len, cap, h1, h2, h3⟩ := side _ (rd_ok h x) (fun _ => trivial) hx
    exact ⟨ad.isNone, h2, h3, key ad len cap _ hu ⟨_, rfl⟩ h1 rfl _ true (.inr ⟨rfl, rfl⟩)⟩
  · cases he

theorem ReadsA.push {m : Mem} {vs ds v d} (h : ReadsA m vs ds) (hv : Reads m v d) : ReadsA m (vs ++ [v]) (ds ++ [d]) := by
  induction h with
  | nil => exact .cons hv .nil
  | cons h _ ih => exact .cons h ih
theorem ReadsA.set {m : Mem} {vs ds v d} (h : ReadsA m vs ds) (hv : Reads m v d) : ∀ (i : Nat), ReadsA m (vs.set i v) (ds.set i d) := by
  induction h with
  | nil => intro i; exact .nil
  | cons h t ih =>
    intro i
    cases i with
    | zero => exact .cons hv t
    | succ i => exact .cons h (ih i)
theorem sameBits_scal {m : Mem} {u v : Value} {k k' : D} (hu : Reads m u k) (hv : Reads m v k') (h : scalEq k k' = some true) (n : Nat) : Instr.sameBits (n + 1) v u = true := by
  cases k with
  | v x =>
    cases k' with
    | v y =>
      cases hu; cases hv
      cases u <;> cases v <;> simp [scalEq] at h
      · simp [Instr.sameBits, h]
      · obtain ⟨rfl, rfl⟩ := h; simp [Instr.sameBits]
      · have := congrArg (fun l : List UInt8 => (⟨l.toArray⟩ : ByteArray)) h
        simp only [mk_sb] at this
        subst this
        rw [Instr.sameBits, beq_toListBytes]
        exact beq_self_eq_true _
    | _ => cases u <;> simp [scalEq] at h
  | _ => simp [scalEq] at h

theorem run_mapUpdate_new {P : Program} {t kt et b : Nat} (hmu : P.underlying t = some (.map kt et)) {kind : TypeDesc} (hkind : P.underlying kt = some kind) {w : World} {entries : Array MapEntry} {clock : Nat} (hh : w.heap[b]? = some (.map entries clock)) {k v : Value}
    (hck : (Instr.checkKey false 10000 kt k).run P w = .ok () w) (hnow : Instr.findNow kind k entries.toList 0 = some none) :
    (Instr.mapUpdate t (.map (some b)) k v).run P w = .ok () { w with heap := w.heap.setIfInBounds b (.map (entries.push { key := k, val := v, born := clock }) (clock + 1)) } := by
  have hg : (getObj b).run P w = .ok (.map entries clock) w := by simp [getObj, Sem.run, hh]
  simp only [Instr.mapUpdate, Sem.run_bind, run_underlying hmu, Result.andThen_ok, hg, hck, Instr.findKey, run_underlying hkind, hnow, Sem.run_pure]
  simp [setObj, Sem.run, hh]
theorem run_mapUpdate_old {P : Program} {t kt et b : Nat} (hmu : P.underlying t = some (.map kt et)) {kind : TypeDesc} (hkind : P.underlying kt = some kind) {w : World} {entries : Array MapEntry} {clock : Nat} (hh : w.heap[b]? = some (.map entries clock)) {k v : Value}
    (hck : (Instr.checkKey false 10000 kt k).run P w = .ok () w) {j : Nat} {e : MapEntry} (he : entries[j]? = some e) (hnow : Instr.findNow kind k entries.toList 0 = some (some (j, e.val))) (hsb : Instr.sameBits 10000 e.key k = true) :
    (Instr.mapUpdate t (.map (some b)) k v).run P w = .ok () { w with heap := w.heap.setIfInBounds b (.map (entries.modify j fun e => { e with key := k, val := v }) clock) } := by
  have hg : (getObj b).run P w = .ok (.map entries clock) w := by simp [getObj, Sem.run, hh]
  simp only [Instr.mapUpdate, Sem.run_bind, run_underlying hmu, Result.andThen_ok, hg, hck, Instr.findKey, run_underlying hkind, hnow, Sem.run_pure, he, Option.map_some, Option.getD_some, Instr.keyThatStays, hsb, if_true]
  simp [setObj, Sem.run, hh]

theorem sop_ok (h : Holds g st a w c) {i : Nat} {o : Oper} (hi : ops[i]? = some o) (hg : o.guard = none) (hsl : slotOk g.n o = true) {K : St → Prop} (hs : sop g.P ops o st K)
    {Q : Exit → Act → World → Prop} {KK : Act → World → Prop} (hK : ∀ st' a' w' c', Holds g st' a' w' c' → K st' → KK a' w') : wpOp g.P ops Q i KK a w := by
  unfold sop at hs
  split at hs
  · -- alloc
    rename_i t ho
    split at hs
    · rename_i d zs hd hz
      obtain ⟨z, hrun, hcv, hrd⟩ := tz_ok w c (st.clear d).L hz
      have hrun : (execOp a.eval o).run g.P w = .ok (.value (.pointer (some ⟨w.heap.size, 0, none⟩))) (w.alloc (.cells z.cells t)) := by
        simp only [execOp, ho, Instr.alloc, Sem.run_bind, hrun, Result.andThen_ok, newVar, newRow]
        rfl
      split at hs
      · rw [← hd] at hs
        exact sopH_ok h hi hg hsl hs hrun (fun w' hw => .cells hw hrd) (fun c' => .d (.v rfl rfl)) hK
      · have hdn : d < g.n := by simpa [slotOk, hd] using hsl
        refine wpOp_plain hi hg ?_
        obtain ⟨c', hh, hcv'⟩ := (h.clear d).newBox (clear_none st d) t hcv
        unfold Oper.wp
        rw [hrun]
        simp only [Oper.upon, hd]
        exact hK _ _ _ c' (hh.put hdn hcv') hs
    · exact hs.elim
  · -- box
    rename_i t x ho
    split at hs
    · rename_i d ys hd hy
      have hcv := cellsOf_ok h (rd_ok h x) hy
      have hrun : (execOp a.eval o).run g.P w = .ok (.value (.pointer (some ⟨w.heap.size, 0, none⟩))) (w.alloc (.cells (a.eval x).cells t)) := by
        simp only [execOp, ho, Instr.box, Sem.run_bind, newVar, newRow]
        rfl
      split at hs
      · split at hs
        · rename_i ds hds
          rw [← hd] at hs
          exact sopH_ok h hi hg hsl hs hrun (fun w' hw => .cells hw (toDL_ok h hcv hds)) (fun c' => .d (.v rfl rfl)) hK
        · exact hs.elim
      · obtain ⟨hfree, hk⟩ := hs
        have hdn : d < g.n := by simpa [slotOk, hd] using hsl
        refine wpOp_plain hi hg ?_
        obtain ⟨c', hh, hcv'⟩ := h.newBox hfree t hcv
        unfold Oper.wp
        rw [hrun]
        simp only [Oper.upon, hd]
        exact hK _ _ _ c' (hh.put hdn hcv') hk
    · exact hs.elim
  · -- store
    rename_i t p x ho
    split at hs
    · rename_i ag sz ys hd hk hy
      have hcv := cellsOf_ok h (rd_ok h x) hy
      split at hs
      · rename_i r off hp
        split at hs
        · rename_i cs hl
          obtain ⟨⟨hn, hle⟩, hkk⟩ := hs
          refine wpOp_plain hi hg ?_
          have hpv := rd_ok h p
          rw [hp] at hpv
          generalize hq : V.lp r off = q at hpv
          generalize hpe : a.eval p = pv at hpv
          cases hpv <;> cases hq
          rename_i b _ hb
          cases h.loc r _ hl with
          | box hb' hh hm hbox =>
            rename_i b' arr ty
            have e : b' = b := by rw [hb] at hb'; exact (Option.some.inj hb').symm
            subst e
            have hlen := hcv.length
            have hbl := hbox.length
            have hrun := run_storeVar_box (P := g.P) hk b' off arr ty hh (a.eval x) (by rw [hlen, hn]) (by simp only [Array.length_toList] at hbl; omega) hcv.one
            unfold Oper.wp
            have : (execOp a.eval o).run g.P w = .ok .skip (w.setRow b' (arr.toList.take off ++ (a.eval x).cells.toList ++ arr.toList.drop (off + sz)).toArray) := by
              simp only [execOp, ho, hpe, Sem.run_bind, hrun, Result.andThen_ok]; rfl
            rw [this]
            simp only [Oper.upon, hd]
            refine hK _ _ _ c (h.setBox hl hb hh (cs' := cs.take off ++ ys ++ cs.drop (off + sz)) ?_) hkk
            exact ((hbox.take off).app hcv).app (hbox.drop (off + sz))
        · exact hs.elim
      · rename_i b off hp
        split at hs
        · rename_i cs ds L' hHb hds
          obtain ⟨⟨hn, hle⟩, hkk⟩ := hs
          refine wpOp_plain hi hg ?_
          obtain ⟨c1, h1, hc1, hds1⟩ := argsD_ok h hds
          have hcv1 := hcv.mono hc1
          have hrd := toDL_ok h1 hcv1 hds1
          have hpv := (rd_ok h p)
          rw [hp] at hpv
          have hpe := hpv.v
          cases h1.heap.at_ b _ hHb with
          | cells hh hbox =>
            rename_i arr ty
            have hlen := hrd.length
            have hbl := hbox.length
            have hrun := run_storeVar_box (P := g.P) hk b off arr ty hh (a.eval x) (by rw [hlen, hn]) (by simp only [Array.length_toList] at hbl; omega) hcv.one
            unfold Oper.wp
            have : (execOp a.eval o).run g.P w = .ok .skip (w.setRow b (arr.toList.take off ++ (a.eval x).cells.toList ++ arr.toList.drop (off + sz)).toArray) := by
              simp only [execOp, ho, hpe, Sem.run_bind, hrun, Result.andThen_ok]; rfl
            rw [this]
            simp only [Oper.upon, hd]
            refine hK _ _ _ c1 (h1.setH hHb (w' := w.setRow b (arr.toList.take off ++ (a.eval x).cells.toList ++ arr.toList.drop (off + sz)).toArray) rfl rfl rfl (size_setRow ..) (fun j hj => setRow_other w b j _ hj) (.cells (setRow_heap w b arr _ ty _ hh) ?_)) hkk
            exact ((hbox.take off).app hrd).app (hbox.drop (off + sz))
        · exact hs.elim
      · exact hs.elim
    · exact hs.elim
  · -- makeMap
    rename_i t ho
    split at hs
    · rename_i d hd
      rw [← hd] at hs
      exact sopH_ok h hi hg hsl hs (ob := .map #[] 0) (v := .map (some w.heap.size)) (by simp only [execOp, ho, Instr.makeMap, Sem.run_bind, newObj]; rfl) (fun w' hw => .map hw .nil .nil) (fun c' => .d (.v rfl rfl)) hK
    · exact hs.elim
  · -- mapUpdate
    rename_i t mo ko xo ho
    split at hs
    · rename_i kt et b key hd ht hm hko
      split at hs
      · rename_i es y L' hHb hy
        split at hs
        · rename_i r hr
          obtain ⟨hsk, hkk⟩ := hs
          refine wpOp_plain hi hg ?_
          obtain ⟨c1, h1, hc1, hy1⟩ := argsD_ok h hy
          have hmu := tk_map ht
          have hmv := (rd_ok h mo); rw [hm] at hmv; have hme := hmv.v
          have hkv := (rd_ok h ko).mono hc1; rw [hko] at hkv
          have hkr : Reads c1.m (a.eval ko) key := by
            clear hK
            generalize a.eval ko = kv at hkv
            cases hkv with | d hr => exact hr
          have hyr : Reads c1.m (a.eval xo) y := by
            have := toD_ok h1 ((rd_ok h xo).mono hc1) (d := y) (by
              simp only [toDs] at hy1
              split at hy1
              · rename_i d ds e1 e2; cases e2; cases hy1; exact e1
              · cases hy1)
            exact this
          obtain ⟨kind, hkind⟩ := scalK_und hsk
          cases h1.heap.at_ b _ hHb with
          | map hh hkeys hvals =>
            rename_i entries clock
            have hnow := keyIn_now hsk hkr hkind entries.toList es 0 hkeys hvals hr
            have hsz : b < w.heap.size := (Array.getElem?_eq_some_iff.1 hh).1
            unfold Oper.wp
            cases r with
            | none =>
              simp only at hnow
              have : (execOp a.eval o).run g.P w = .ok .skip { w with heap := w.heap.setIfInBounds b (.map (entries.push { key := a.eval ko, val := a.eval xo, born := clock }) (clock + 1)) } := by
                simp only [execOp, ho, hme, Sem.run_bind, run_mapUpdate_new hmu hkind hh (run_checkKey_scal hsk hkr _ _) hnow, Result.andThen_ok]; rfl
              rw [this]
              simp only [Oper.upon, hd]
              refine hK _ _ _ c1 (h1.setH hHb (w' := { w with heap := w.heap.setIfInBounds b (.map (entries.push { key := a.eval ko, val := a.eval xo, born := clock }) (clock + 1)) }) rfl rfl rfl (by simp) (fun j hj => by simp [Ne.symm hj]) (.map (entries := entries.push { key := a.eval ko, val := a.eval xo, born := clock }) (clock := clock + 1) (by simp [hsz]) ?_ ?_)) hkk
              · simpa [setKey] using hkeys.push hkr
              · simpa [setKey] using hvals.push hyr
            | some p =>
              obtain ⟨j, z⟩ := p
              obtain ⟨e, e1, e2, e3, k', e4, e5, e6⟩ := hnow
              have e1' : entries[j]? = some e := by simpa using e1
              have : (execOp a.eval o).run g.P w = .ok .skip { w with heap := w.heap.setIfInBounds b (.map (entries.modify j fun e => { e with key := a.eval ko, val := a.eval xo }) clock) } := by
                simp only [execOp, ho, hme, Sem.run_bind, run_mapUpdate_old hmu hkind hh (run_checkKey_scal hsk hkr _ _) e1' (by rw [Nat.zero_add] at e2; exact e2) (sameBits_scal hkr e5 e6 9999), Result.andThen_ok]; rfl
              rw [this]
              simp only [Oper.upon, hd]
              refine hK _ _ _ c1 (h1.setH hHb (w' := { w with heap := w.heap.setIfInBounds b (.map (entries.modify j fun e => { e with key := a.eval ko, val := a.eval xo }) clock) }) rfl rfl rfl (by simp) (fun j hj => by simp [Ne.symm hj]) (.map (entries := entries.modify j fun e => { e with key := a.eval ko, val := a.eval xo }) (clock := clock) (by simp [hsz]) ?_ ?_)) hkk
              · have := hkeys.set hkr j
                have q : (entries.modify j fun e => { e with key := a.eval ko, val := a.eval xo }).toList.map (·.key) = (entries.toList.map (·.key)).set j (a.eval ko) := by
                  apply List.ext_getElem? ; intro n
                  simp [List.getElem?_set, Array.getElem?_modify]
                  by_cases hn : j = n
                  · subst hn; simp [e1']; exact (Array.getElem?_eq_some_iff.1 e1').1
                  · simp [hn]
                rw [q]; simpa [setKey, List.map_set] using this
              · have := hvals.set hyr j
                have q : (entries.modify j fun e => { e with key := a.eval ko, val := a.eval xo }).toList.map (·.val) = (entries.toList.map (·.val)).set j (a.eval xo) := by
                  apply List.ext_getElem? ; intro n
                  simp [List.getElem?_set, Array.getElem?_modify]
                  by_cases hn : j = n
                  · subst hn; simp [e1']; exact (Array.getElem?_eq_some_iff.1 e1').1
                  · simp [hn]
                rw [q]; simpa [setKey, List.map_set] using this
        · exact hs.elim
      · exact hs.elim
    · exact hs.elim
  · -- range
    rename_i t x ho
    split at hs
    · rename_i d s hd ht hx
      rw [← hd] at hs
      have hv := rd_ok h x
      rw [hx] at hv
      obtain ⟨he, hl⟩ := hv.string
      exact sopH_ok h hi hg hsl hs (ob := .stringIter s 0) (v := .pointer (some ⟨w.heap.size, 0, none⟩)) (by simp only [execOp, ho, he, Sem.run_bind, run_range_string w t s (tk_string ht)]; rfl) (fun w' hw => .iter hw hl) (fun c' => .d (.v rfl rfl)) hK
    · exact hs.elim
  · -- next
    rename_i x ho
    split at hs
    · rename_i b hx
      split at hs
      · rename_i l pos hb
        have hv := rd_ok h x
        rw [hx] at hv
        have he := hv.v
        refine wpOp_plain hi hg ?_
        cases h.heap.at_ b _ hb with
        | iter hh hl =>
          have hsz : b < w.heap.size := (Array.getElem?_eq_some_iff.1 hh).1
          have hsl' : (⟨l.toArray⟩ : ByteArray).size = l.length := by simp [ByteArray.size]
          unfold Oper.wp
          by_cases hp : pos < l.length
          · have := Lib.run_next_any_at (P := g.P) w b ⟨l.toArray⟩ pos o.type hh (by rw [hsl']; exact hp)
            have : (execOp a.eval o).run g.P w = .ok (.value (.tuple #[.bool true, .int .i64 pos, .int .i32 (Utf8.decode ⟨l.toArray⟩ pos).1])) (w.iterAt b ⟨l.toArray⟩ (pos + (Utf8.decode ⟨l.toArray⟩ pos).2)) := by
              simp only [execOp, ho, he, Sem.run_bind, this, Result.andThen_ok]; rfl
            rw [this]
            exact hK _ _ _ c ((h.setH hb (w' := w.iterAt b ⟨l.toArray⟩ (pos + (Utf8.decode ⟨l.toArray⟩ pos).2)) rfl rfl rfl (Lib.iterAt_size ..) (fun j hj => Lib.iterAt_other _ _ _ _ _ hj) (.iter (Lib.iterAt_heap _ _ _ _ _ hh) hl)).putO hsl (.tup (.cons (.ofBool _) (.cons (.ofInt _ _) (.cons (.ofInt _ _) .nil))))) (hs.1 hp)
          · have := Lib.run_next_end_at (P := g.P) w b ⟨l.toArray⟩ pos o.type hh (by rw [hsl']; exact hp)
            have : (execOp a.eval o).run g.P w = .ok (.value (.tuple #[.bool false])) w := by
              simp only [execOp, ho, he, Sem.run_bind, this, Result.andThen_ok]; rfl
            rw [this]
            exact hK _ _ _ c (h.putO hsl (.tup (.cons (.ofBool _) .nil))) (hs.2 hp)
      · exact hs.elim
    · exact hs.elim
  · -- compared with nil
    rename_i op t x y yt ho
    split at hs
    · rename_i neg sz xs he
      obtain ⟨b, h1, h2, hrun⟩ := slNil_ok h he
      refine wpOp_plain hi hg ?_
      unfold Oper.wp
      have : (execOp a.eval o).run g.P w = .ok (.value (.bool (if neg = true then !b else b))) w := by
        simp only [Sem.run_bind] at hrun
        simp only [execOp, ho, Sem.run_bind, hrun, Result.andThen_ok]; rfl
      rw [this]
      exact hK _ _ _ c (h.putO hsl (.ofBool _)) (hs b h1 h2)
    · exact sop_quiet h hi hsl hs hK
  · -- buildSlice
    rename_i t n ps ho
    split at hs
    · rename_i d hd
      split at hs
      · split at hs
        · rename_i sz f xs hval
          obtain ⟨hside, hs⟩ := hs
          have hq : qst g.P ops st o = ((true = true → (qop g.P st true o.dst o.op).side), (true = true → (qop g.P st true o.dst o.op).gain), (qop g.P st true o.dst o.op).val) := by
            unfold qst; rw [hg]; simp only [gv, wrapG]; rw [hg]
          rw [hq] at hside hval
          have hside := hside rfl
          rw [ho] at hside hval
          obtain ⟨sz2, xs2, arr, e, hv2, hrun, hz, hn, hm, hx, hr⟩ := qbs_raw h _ _ (rdL_keys (a := a) (gb := true) ps.toList) (rdL_ok h rfl ps.toList hside.1) hside.2
          have hxx : xs2 = xs := by
            have hval' : (qbs g.P t n (rdL true st ps.toList).2).val = .d (.sl sz f xs) := hval
            rw [hv2] at hval'
            simp only [V.d.injEq, D.sl.injEq] at hval'
            exact hval'.2.2
          subst hxx
          rw [← hd] at hs
          refine sopH_ok h hi hg hsl hs (ob := .cells arr e) (v := .slice (some ⟨w.heap.size, 0, none⟩) n n) ?_ (fun w' hw => .cells hw hr) (fun c' => .d (.v rfl rfl)) hK
          have e : (ps.map fun x => (x.1, a.eval x.2)) = (ps.toList.map fun (i, x) => (i, a.eval x)).toArray := by apply Array.ext'; simp
          simp only [execOp, ho, Sem.run_bind]
          rw [e, hrun]; rfl
        · exact hs.elim
      · exact sop_quiet h hi hsl hs hK
    · exact hs.elim
  · -- call
    rename_i cl ho
    split at hs
    · rename_i s x t t' hc ha htt
      split at hs
      · rename_i d hd
        obtain ⟨rfl, hs⟩ := hs
        exact wpOp_plain hi hg (sapp_ok h ho hc ha htt hd (by simpa [slotOk, hd] using hsl) hs hK)
      · exact hs.elim
    · rename_i f hc
      split at hs
      · rename_i ds L' hds
        refine wpOp_plain hi hg (call_ok h ho hc hsl (by simp) (fun j v x hv hx => ?_) hds hs hK)
        simp only [List.getElem?_map, Option.map_eq_some_iff] at hv hx
        obtain ⟨y, hy, rfl⟩ := hv
        obtain ⟨z, hz, rfl⟩ := hx
        rw [hy] at hz
        cases hz
        exact rd_ok h y
      · exact hs.elim
    · exact sop_quiet h hi hsl hs hK
  · exact sop_quiet h hi hsl hs hK

theorem sopG_ok (h : Holds g st a w c) {i : Nat} {o : Oper} (hi : ops[i]? = some o) (hsl : slotOk g.n o = true) {K : St → Prop} (hs : sopG g.P ops o st K)
    {Q : Exit → Act → World → Prop} {KK : Act → World → Prop} (hK : ∀ st' a' w' c', Holds g st' a' w' c' → K st' → KK a' w') : wpOp g.P ops Q i KK a w := by
  unfold sopG at hs
  split at hs
  · rename_i hg; exact sop_ok h hi hg hsl hs hK
  · rename_i gd hg
    split at hs
    · rename_i cl ho
      split at hs
      · rename_i f gb hc hgv
        have hw := gv_ok h hgv
        cases gb with
        | false =>
          have hk := hs.2 rfl
          unfold wpOp
          simp only [hi, hw, Bool.false_eq_true, if_false]
          cases hd : o.dst with
          | none => rw [hd] at hk; exact hK _ _ _ c h hk
          | some d =>
            rw [hd] at hk
            exact hK _ _ _ c (h.put (by simpa [slotOk, hd] using hsl) (.g (fun e => by cases e) fun _ => rfl)) hk
        | true =>
          obtain ⟨hk1, hk⟩ := hs.1 rfl
          unfold wpOp
          simp only [hi, hw, if_true]
          refine .inl ?_
          split at hk
          · rename_i ds L' hds
            exact call_ok h ho hc hsl (rdA_len _) (rdA_ok h rfl _ hk1) hds hk hK
          · exact hk.elim
      · exact sop_quiet h hi hsl hs hK
      · exact hs.elim
    all_goals first | exact hs.elim | exact sop_quiet h hi hsl hs hK

theorem sops_ok {Q : Exit → Act → World → Prop} : ∀ (l : List Oper) (j : Nat) (st : St) (a : Act) (w : World) (c : Cx) (K : St → Prop), Holds g st a w c → ops.toList.drop j = l → (ops.toList.all (slotOk g.n)) = true → sops g.P ops l st K →
    (∀ st' a' w' c', Holds g st' a' w' c' → K st' → Q .normal a' w') → wpOps g.P ops Q (List.range' j (ops.size - j)) a w
  | [], j, st, a, w, c, K, h, hl, hsl, hs, hK => by
    have hj : ops.size ≤ j := by
      have := congrArg List.length hl
      simp only [List.length_drop, Array.length_toList, List.length_nil] at this
      omega
    rw [show ops.size - j = 0 by omega]
    exact hK st a w c h hs
  | o :: r, j, st, a, w, c, K, h, hl, hsl, hs, hK => by
    have hj : j < ops.size := by
      have := congrArg List.length hl
      simp only [List.length_drop, Array.length_toList, List.length_cons] at this
      omega
    have ho : ops[j]? = some o := by
      have : (ops.toList.drop j)[0]? = some o := by rw [hl]; rfl
      rw [List.getElem?_drop] at this
      simpa using this
    have hr : ops.toList.drop (j + 1) = r := by
      rw [← List.drop_drop, hl]; rfl
    rw [show ops.size - j = (ops.size - (j + 1)) + 1 by omega, List.range'_succ, wpOps_cons]
    refine sopG_ok h ho ?_ hs fun st' a' w' c' hh hk => sops_ok r (j + 1) st' a' w' c' K hh hr hsl hk hK
    have := List.all_eq_true.1 hsl o (by
      have : o ∈ ops.toList.drop j := by rw [hl]; exact List.mem_cons_self ..
      exact List.mem_of_mem_drop this)
    exact this

/-- The text's states are those of 'stAt'. -/
theorem qrun_stAt {P : Program} (st0 : St) : ∀ (l : List Oper) (j : Nat), (∀ i o, l[i]? = some o → ops[j + i]? = some o) →
    (qrun P ops l (stAt P ops st0 j)).2.2 = stAt P ops st0 (j + l.length) ∧
    ((qrun P ops l (stAt P ops st0 j)).1 → ∀ i o, l[i]? = some o → (qst P ops (stAt P ops st0 (j + i)) o).1) ∧
    ((∀ i o, l[i]? = some o → (qst P ops (stAt P ops st0 (j + i)) o).2.1) → (qrun P ops l (stAt P ops st0 j)).2.1)
  | [], j, _ => ⟨rfl, fun _ i o h => by simp at h, fun _ => trivial⟩
  | o :: r, j, h => by
    have ho : ops[j]? = some o := h 0 o rfl
    have hnext : (stAt P ops st0 j).put o.dst (qst P ops (stAt P ops st0 j) o).2.2 = stAt P ops st0 (j + 1) := by simp only [stAt, ho]
    obtain ⟨i1, i2, i3⟩ := qrun_stAt st0 r (j + 1) fun i o' hi => by
      have := h (i + 1) o' (by simpa using hi)
      rwa [show j + (i + 1) = j + 1 + i by omega] at this
    simp only [qrun, hnext]
    refine ⟨by rw [i1]; congr 1; simp; omega, fun hs i o' hi => ?_, fun hg => ⟨hg 0 o rfl, i3 fun i o' hi => ?_⟩⟩
    · cases i with
      | zero => simp only [List.getElem?_cons_zero, Option.some.injEq] at hi; subst hi; exact hs.1
      | succ i =>
        have := i2 hs.2 i o' (by simpa using hi)
        rwa [show j + (i + 1) = j + 1 + i by omega]
    · have := hg (i + 1) o' (by simpa using hi)
      rwa [show j + (i + 1) = j + 1 + i by omega] at this

theorem wp_loop' {P : Program} {α : Type} {b : Code} {Q : Exit → Act → World → Prop} (I : α → Act → World → Prop) (μ : α → Nat)
    (round : ∀ x a w, I x a w → b.wp P (Exit.then (fun a' w' => ∃ y, I y a' w' ∧ μ y < μ x) Q) a w) {x : α} {a : Act} {w : World} (h₀ : I x a w) : (Code.loop b).wp P Q a w := by
  intro fr k cs
  have key : ∀ n x a w, μ x = n → I x a w → ∃ e a' w', Q e a' w' ∧ Arrives P (lone (fr.at a (.code b :: .inLoop b :: k)) cs w) fr k cs e a' w' := by
    intro n
    induction n using Nat.strongRecOn with
    | _ n ih =>
      intro x a w hn hI
      obtain ⟨e, a₁, w₁, hq, harr⟩ := round x a w hI fr (.inLoop b :: k) cs
      cases e with
      | normal =>
        obtain ⟨y, hI₁, hlt⟩ := hq
        obtain ⟨e₂, a₂, w₂, hq₂, harr₂⟩ := ih (μ y) (hn ▸ hlt) y a₁ w₁ rfl hI₁
        exact ⟨e₂, a₂, w₂, hq₂, .of_steps (Steps.trans harr (.one step_inLoop)) harr₂⟩
      | exit id => exact ⟨_, a₁, w₁, hq, .pass (x := .inLoop b) rfl (fun _ _ => .inl (by simp)) harr⟩
      | goto l => exact ⟨_, a₁, w₁, hq, .pass (x := .inLoop b) rfl (fun _ _ => .inl (by simp)) harr⟩
      | ret => exact ⟨_, a₁, w₁, hq, .pass (x := .inLoop b) rfl (fun _ _ => .inl (by simp)) harr⟩
      | panic ch => exact ⟨_, a₁, w₁, hq, .pass (x := .inLoop b) rfl (fun _ _ => .inl (by simp)) harr⟩
      | outgrown => exact ⟨_, a₁, w₁, hq, .pass (x := .inLoop b) rfl (fun _ _ => .inl (by simp)) harr⟩
  obtain ⟨e, a', w', hq, harr⟩ := key _ x a w rfl h₀
  exact ⟨e, a', w', hq, .of_steps (.one step_loop) harr⟩

/-- THE VERIFICATION CONDITIONS SUFFICE. -/
theorem vc_ok (hm : g.P.follows .mixedOrders = true) : ∀ (code : Code) (st : St) (Q : Exit → St → Prop), slotsOk g.n code = true → vc g.P g.n code st Q → AEv g code st Q
  | .skip, st, Q, _, h => fun a w c hh => wp_skip ⟨st, c, hh, h⟩
  | .label _, st, Q, _, h => fun a w c hh => wp_label ⟨st, c, hh, h⟩
  | .exit id, st, Q, _, h => fun a w c hh => wp_exit ⟨st, c, hh, h⟩
  | .ret, st, Q, _, h => fun a w c hh => wp_ret ⟨st, c, hh, h⟩
  | .seq x y, st, Q, hsl, h => by
    intro a w c hh
    simp only [slotsOk, Bool.and_eq_true] at hsl
    refine wp_seq (wp_mono (vc_ok hm x st _ hsl.1 h a w c hh) ?_)
    rintro e a' w' ⟨st', c', hh', hq⟩
    cases e with
    | normal => exact vc_ok hm y st' Q hsl.2 hq a' w' c' hh'
    | _ => exact ⟨st', c', hh', hq⟩
  | .cond cd x y, st, Q, hsl, h => by
    intro a w c hh
    simp only [slotsOk, Bool.and_eq_true] at hsl
    simp only [vc] at h
    split at h
    · rename_i t ht
      have hv := rd_ok hh cd
      rw [ht] at hv
      rcases h with h | ⟨_, stj, h1, h2, h3⟩
      · exact wp_cond_split hv.bool (fun e => vc_ok hm x st Q hsl.1 (h.1 e) a w c hh) (fun e => vc_ok hm y st Q hsl.2 (h.2 e) a w c hh)
      · refine wp_mono (wp_cond_split hv.bool (fun e => vc_ok hm x st _ hsl.1 (h1 e) a w c hh) (fun e => vc_ok hm y st _ hsl.2 (h2 e) a w c hh)) ?_
        rintro e a' w' ⟨st', c', hh', hq⟩
        cases e with
        | normal =>
          obtain ⟨c2, hh2⟩ := hq g a' w' c' hh'
          exact ⟨stj, c2, hh2, h3⟩
        | _ => exact ⟨st', c', hh', hq⟩
    · exact h.elim
  | .block id b, st, Q, hsl, h => by
    intro a w c hh
    simp only [slotsOk] at hsl
    refine wp_block (wp_mono (vc_ok hm b st _ hsl h a w c hh) ?_)
    rintro e a' w' ⟨st', c', hh', hq⟩
    cases e with
    | exit j =>
      simp only [Exit.inBlock] at hq ⊢
      by_cases e : j = id
      · rw [if_pos e] at hq ⊢; exact ⟨st', c', hh', hq⟩
      · rw [if_neg e] at hq ⊢; exact ⟨st', c', hh', hq⟩
    | _ => exact ⟨st', c', hh', hq⟩
  | .region id ops false, st, Q, hsl, h => by
    intro a w c hh
    refine wp_region ?_
    have := sops_ok (g := g) (ops := ops) (Q := fun e a' w' => ∃ st' c', Holds g st' a' w' c' ∧ Q e st') ops.toList 0 st a w c _ hh (by simp) hsl h fun st' a' w' c' h1 h2 => ⟨st', c', h1, h2⟩
    simpa [List.range_eq_range'] using this
  | .region id ops true, st, Q, hsl, h => by
    intro a w c hh
    obtain ⟨k, O, hok, hs, hk⟩ := h
    have hO := orderOk_spec hok
    have htk : ∀ i o, (ops.toList.take k)[i]? = some o → ops[0 + i]? = some o ∧ i < k := fun i o hi => by
      rw [List.getElem?_take] at hi
      split at hi
      · rename_i hlt; exact ⟨by rw [Nat.zero_add]; simpa using hi, hlt⟩
      · cases hi
    obtain ⟨q1, q2, q3⟩ := qrun_stAt (P := g.P) (ops := ops) { st with O := O } (ops.toList.take k) 0 fun i o hi => (htk i o hi).1
    have hst0 : stAt g.P ops { st with O := O } 0 = { st with O := O } := rfl
    rw [hst0] at q1 q2 q3
    have hlen : (ops.toList.take k).length = k := by rw [List.length_take, Array.length_toList]; exact Nat.min_eq_left hO.le
    have back : ∀ i o, ops[i]? = some o → i < k → (ops.toList.take k)[i]? = some o := fun i o hi hlt => by
      rw [List.getElem?_take, if_pos hlt]; simpa using hi
    refine wp_region_any hm ?_
    refine quiet_any (g := g) (Q := fun e a' w' => ∃ st' c', Holds g st' a' w' c' ∧ Q e st') hO (st := { st with O := O }) (fun i o hi _ => ?_) (fun i o hi hlt => ?_) ?_ ops.size _ [] a _ c ?_ (by simp) List.nodup_nil (by simp) (by simp) ?_
    · exact List.all_eq_true.1 hsl o (by have := Array.mem_of_getElem? hi; simpa using this)
    · have := q2 hs i o (back i o hi hlt)
      rwa [Nat.zero_add] at this
    · intro a' w' c' hh' hgn
      have hg := q3 fun i o hi => by
        have := htk i o hi
        rw [Nat.zero_add] at this
        have := hgn i o this.1 this.2
        rwa [Nat.zero_add]
      have hk' := hk hg
      rw [q1, Nat.zero_add, hlen] at hk'
      exact sops_ok (ops.toList.drop k) k _ a' w' c' _ (hh'.noO []) rfl hsl hk' fun st' a'' w'' c'' h1 h2 => ⟨st', c'', h1, h2⟩
    · refine ⟨by simp, fun i hi => ?_, by simp, by simp⟩
      simp [hi]
    · exact (hh.noO O).drew
  | .loop b, st, Q, hsl, h => by
    intro a w c hh
    simp only [slotsOk] at hsl
    obtain ⟨α, inv, ok, μ, x, hx, himp, hround⟩ := h
    obtain ⟨c', hh'⟩ := himp g a w c hh
    refine wp_loop' (fun x a w => ok x ∧ ∃ c, Holds g (inv x) a w c) μ (fun x a w hI => ?_) (x := x) ⟨hx, c', hh'⟩
    obtain ⟨hok, c1, h1⟩ := hI
    refine wp_mono (vc_ok hm b (inv x) _ hsl (hround x hok) a w c1 h1) ?_
    rintro e a' w' ⟨st', c2, h2, hq⟩
    cases e with
    | normal =>
      obtain ⟨y, hy, hlt, hi⟩ := hq
      obtain ⟨c3, h3⟩ := hi g a' w' c2 h2
      exact ⟨y, ⟨hy, c3, h3⟩, hlt⟩
    | _ => exact ⟨st', c2, h2, hq⟩
  | .rangeFunc .., _, _, _, h => by simp [vc] at h
  | .scope .., _, _, _, h => by simp [vc] at h
  | .goto .., _, _, _, h => by simp [vc] at h
  | .refuse .., _, _, _, h => by simp [vc] at h
end
end Go.Ab
