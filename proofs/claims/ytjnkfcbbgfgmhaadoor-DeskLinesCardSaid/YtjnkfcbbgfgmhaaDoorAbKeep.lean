/- THE ABSTRACT LAYER, PART 6: what stays as it is when the world grows; new frozen rows; slots. -/
import Derived.Test.YtjnkfcbbgfgmhaaDoorAbMake
set_option linter.unusedSimpArgs false
set_option linter.unusedVariables false
namespace Go.Ab
open Go

theorem LOk.keep {c c' : Cx} {L L' : List (Nat × LO)} {w w' : World} {i : Nat} {o : LO} (h : LOk c L w i o) (hle : Cx.le c c' L L') (hb : c'.bk i = c.bk i) (hv : c'.lv i = c.lv i)
    (hw : ∀ b, c.bk i = some b → w'.heap[b]? = w.heap[b]? ∧ ∀ j, c'.m b j = c.m b j) : LOk c' L' w' i o := by
  cases h with
  | box hb0 hh hm hcv => exact .box (hb.trans hb0) ((hw _ hb0).1.trans hh) (fun j => ((hw _ hb0).2 j).trans (hm j)) (hcv.mono hle)
  | nil hv0 hb0 => exact .nil (hv.trans hv0) (hb.trans hb0)
  | row hz hv0 hb0 hh hc hcm hs hx hr hm => exact .row hz (hv.trans hv0) (hb.trans hb0) ((hw _ hb0).1.trans hh) hc hcm hs hx (hr.mono hle.m) (fun j => ((hw _ hb0).2 j).trans (hm j))

theorem HpOk.keep {m m' : Mem} {w w' : World} {F : Nat → Prop} {H : Hp} (h : HpOk m w F H) (hle : Mem.le m m') (hw : ∀ b, F b → w'.heap[b]? = w.heap[b]? ∧ ∀ j, m' b j = m b j) : HpOk m' w' F H where
  at_ k o ho := by
    have hk := (hw k ((h.foot k).2 (by simp [ho]))).1
    cases h.at_ k o ho with
    | cells hh hv => exact .cells (hk.trans hh) (hv.mono hle)
    | map hh h1 h2 => exact .map (hk.trans hh) (h1.mono hle) (h2.mono hle)
    | iter hh hl => exact .iter (hk.trans hh) hl
  foot := h.foot
  free k hk j := ((hw k hk).2 j).trans (h.free k hk j)

theorem Later.trans {F : Nat → Prop} {w0 w w' : World} (h : Later F w0 w) (ho : w'.os = w.os) (ht : w'.tape = w.tape) (hou : w'.output = w.output) (hs : w.heap.size ≤ w'.heap.size)
    (hb : ∀ k, k < w0.heap.size → ¬ F k → w'.heap[k]? = w.heap[k]?) : Later F w0 w' :=
  ⟨ho.trans h.os, ht.trans h.tape, hou.trans h.output, Nat.le_trans h.size hs, fun k hk hf => (hb k hk hf).trans (h.block k hk hf)⟩

theorem Agrees.lt {m : Mem} {w : World} (h : Agrees m w) {b o v} (hm : m b o = some v) : b < w.heap.size := World.block_lt_of_cell? w ⟨b, o, none⟩ (h b o v hm)
theorem Agrees.out {m : Mem} {w : World} (h : Agrees m w) {b : Nat} (hb : w.heap.size ≤ b) (o : Nat) : m b o = none := by
  cases hm : m b o with
  | none => rfl
  | some v => have := h.lt hm; omega

section
variable {g : Gx} {st : St} {a : Act} {w : World} {c : Cx}

theorem LOk.blk {L w i o} (h : LOk c L w i o) {b} (hb : c.bk i = some b) : b < w.heap.size := by
  cases h with
  | box hb0 hh _ _ => rw [hb] at hb0; cases hb0; exact (Array.getElem?_eq_some_iff.1 hh).1
  | nil _ hb0 => rw [hb] at hb0; cases hb0
  | row _ _ hb0 hh _ _ _ _ _ _ => rw [hb] at hb0; cases hb0; exact (Array.getElem?_eq_some_iff.1 hh).1

/-- THE WORLD GROWS: what was there stays; the frozen memory grows by new blocks alone. -/
theorem Holds.grow (h : Holds g st a w c) {w' : World} {m' : Mem} (ho : w'.os = w.os) (ht : w'.tape = w.tape) (hou : w'.output = w.output) (hs : w.heap.size ≤ w'.heap.size)
    (hb : ∀ k, k < w.heap.size → w'.heap[k]? = w.heap[k]?) (hm : ∀ b, b < w.heap.size → m' b = c.m b) (hag : Agrees m' w') :
    Holds g st a w' { c with m := m' } ∧ Cx.le c { c with m := m' } st.L st.L := by
  have hle : Mem.le c.m m' := fun b o v e => by rw [hm b (h.agr.lt e)]; exact e
  have hc : Cx.le c { c with m := m' } st.L st.L := ⟨hle, fun _ x => x, fun _ _ _ x => x, fun _ _ _ _ x => ⟨rfl, _, _, rfl, x⟩⟩
  refine ⟨⟨h.defers, h.slots, ?_, ?_, ?_, hag, h.mono.trans hle, ?_, h.inj, h.fresh, h.foot, ?_, ?_⟩, hc⟩
  · intro k x hk
    obtain ⟨v, hv, hcv⟩ := h.env k x hk
    exact ⟨v, hv, hcv.mono hc⟩
  · intro i o hl
    have hlo := h.loc i o hl
    exact hlo.keep hc rfl rfl fun b hbk => ⟨hb b (hlo.blk hbk), fun j => by show m' b j = c.m b j; rw [hm b (hlo.blk hbk)]⟩
  · exact h.heap.keep hle fun b hf => ⟨hb b (h.inw b hf), fun j => by show m' b j = c.m b j; rw [hm b (h.inw b hf)]⟩
  · exact h.later.trans ho ht hou hs fun k hk _ => hb k (Nat.lt_of_lt_of_le hk h.later.size)
  · intro b hb0 hf
    show m' b = _
    rw [hm b (Nat.lt_of_lt_of_le hb0 h.later.size)]
    exact h.old b hb0 hf
  · intro b hf
    exact Nat.lt_of_lt_of_le (h.inw b hf) hs

/-- A new frozen row. -/
theorem Holds.frz (h : Holds g st a w c) (arr : Array Value) (ty : TypeId) :
    Holds g st a (w.alloc (.cells arr ty)) { c with m := fun b o => if b = w.heap.size then arr[o]? else c.m b o } ∧
    Cx.le c { c with m := fun b o => if b = w.heap.size then arr[o]? else c.m b o } st.L st.L := by
  refine h.grow rfl rfl rfl (by simp) (fun k hk => heap_alloc_old w _ k hk) (fun b hb => by funext o; rw [if_neg (by omega)]) ?_
  intro b o v hv
  simp only at hv
  by_cases e : b = w.heap.size
  · subst e
    rw [if_pos rfl] at hv
    rw [World.cell?_alloc_new]; exact hv
  · rw [if_neg e] at hv
    rw [World.cell?_alloc_old _ _ _ e]
    exact h.agr b o v hv

theorem Holds.drew (h : Holds g st a w c) : Holds g st a w.drew c := by
  have := (h.grow (w' := w.drew) (m' := c.m) rfl rfl rfl (Nat.le_refl _) (fun _ _ => rfl) (fun _ _ => rfl) h.agr).1
  exact this

/-- A slot is written. -/
theorem Holds.put (h : Holds g st a w c) {t : Nat} (ht : t < g.n) {v : Value} {x : V} (hv : CV c st.L v x) : Holds g { st with env := (t, x) :: st.env } (a.put (some t) v) w c where
  defers := h.defers
  slots := by simp [Act.put, h.slots]
  env := by
    intro k y hk
    rw [lk_cons] at hk
    by_cases e : t = k
    · subst e
      rw [if_pos rfl] at hk
      cases hk
      exact ⟨v, by simp [Act.put, h.slots, ht], hv⟩
    · rw [if_neg e] at hk
      obtain ⟨u, hu, hc⟩ := h.env k y hk
      exact ⟨u, by simp only [Act.put]; rw [Array.getElem?_setIfInBounds_ne e]; exact hu, hc⟩
  loc := h.loc
  heap := h.heap
  agr := h.agr
  mono := h.mono
  later := h.later
  inj := h.inj
  fresh := h.fresh
  foot := h.foot
  old := h.old
  inw := h.inw

/-- Only what the slots' first entries say counts. -/
theorem Holds.sub (h : Holds g st a w c) {env : List (Nat × V)} (he : ∀ k x, lk k env = some x → x = .any ∧ k < g.n ∨ lk k st.env = some x) : Holds g { st with env := env } a w c where
  defers := h.defers
  slots := h.slots
  env := by
    intro k x hk
    rcases he k x hk with ⟨rfl, hk'⟩ | hk'
    · exact ⟨a.tmps[k]'(by rw [h.slots]; exact hk'), by simp [h.slots, hk'], .any⟩
    · exact h.env k x hk'
  loc := h.loc
  heap := h.heap
  agr := h.agr
  mono := h.mono
  later := h.later
  inj := h.inj
  fresh := h.fresh
  foot := h.foot
  old := h.old
  inw := h.inw

theorem fillS_len : ∀ {parts : List (Nat × V)} {xs out : List D}, fillS xs parts = some out → out.length = xs.length
  | [], xs, out, h => by simp [fillS] at h; subst h; rfl
  | (i, .d x) :: r, xs, out, h => by
    simp only [fillS] at h
    rw [fillS_len h, List.length_set]
  | (i, .lp _ _) :: r, _, _, h => by simp [fillS] at h
  | (i, .row _) :: r, _, _, h => by simp [fillS] at h
  | (i, .pe _) :: r, _, _, h => by simp [fillS] at h
  | (i, .re _ _ _) :: r, _, _, h => by simp [fillS] at h
  | (i, .agg _) :: r, _, _, h => by simp [fillS] at h
  | (i, .tup _) :: r, _, _, h => by simp [fillS] at h
  | (i, .g _ _) :: r, _, _, h => by simp [fillS] at h
  | (i, .any) :: r, _, _, h => by simp [fillS] at h

theorem cells_reads {m : Mem} {v : Value} {x : D} (h : Reads m v x) : ReadsL m v.cells.toList x.cells := by
  cases h with
  | v h1 h2 =>
    have e : v.cells = #[v] := by cases v <;> first | rfl | (simp [Value.oneCell'] at h1)
    rw [e]; exact .cons h1 (.v h1 h2) .nil
  | nil => exact .cons rfl .nil .nil
  | sl0 hz => exact .cons rfl (.sl0 hz) .nil
  | sl vals hz hn hc hcm hf hx hm hr => exact .cons rfl (.sl vals hz hn hc hcm hf hx hm hr) .nil
  | agg hr => exact hr

/-- Elements laid into a new row's cells. -/
theorem fillRow_ok {sz : Nat} {m : Mem} (hsz : 0 < sz) : ∀ (parts : List (Nat × Value)) (ps : List (Nat × V)) (cells : Array Value) (xs out : List D),
    ReadsL m cells.toList (xs.flatMap D.cells) → (∀ x ∈ xs, x.cells.length = sz) → parts.map (·.1) = ps.map (·.1) → (∀ p ∈ ps, p.1 < xs.length) →
    (∀ (j : Nat) (p : Nat × Value) (q : Nat × V), parts[j]? = some p → ps[j]? = some q → ∀ x, q.2 = .d x → Reads m p.2 x) → (∀ q ∈ ps, ∀ x, q.2 = .d x → x.cells.length = sz) →
    fillS xs ps = some out → ∃ arr, Instr.fill (fun i => some (i * sz, sz)) cells parts = some arr ∧ ReadsL m arr.toList (out.flatMap D.cells) ∧ ∀ x ∈ out, x.cells.length = sz
  | [], [], cells, xs, out, hr, hx, _, _, _, _, ho => by simp [fillS] at ho; subst ho; exact ⟨cells, rfl, hr, hx⟩
  | [], _ :: _, _, _, _, _, _, hk, _, _, _, _ => by simp at hk
  | _ :: _, [], _, _, _, _, _, hk, _, _, _, _ => by simp at hk
  | (i, v) :: r, (j, y) :: s, cells, xs, out, hr, hx, hk, hlt, hp, hq, ho => by
    simp only [List.map_cons, List.cons.injEq] at hk
    obtain ⟨rfl, hk⟩ := hk
    cases y with
    | d x =>
      simp only [fillS] at ho
      have hv : Reads m v x := hp 0 (i, v) (i, .d x) rfl rfl x rfl
      have hxc : x.cells.length = sz := hq (i, .d x) (List.mem_cons_self ..) x rfl
      have hi : i < xs.length := hlt (i, .d x) (List.mem_cons_self ..)
      have hcv := cells_reads hv
      have hvs : v.cells.size = sz := by have := hcv.length; rw [hxc] at this; simpa using this
      have hcl : cells.size = xs.length * sz := by have := hr.length; rw [flat_len hx] at this; simpa using this
      have hle : i * sz + sz ≤ xs.length * sz := by
        have : (i + 1) * sz ≤ xs.length * sz := Nat.mul_le_mul_right _ hi
        rwa [Nat.add_mul, Nat.one_mul] at this
      have e2 : (v.cells.zipIdx.foldl (fun cs (c, j) => cs.setIfInBounds (i * sz + j) c) cells).toList = cells.toList.take (i * sz) ++ v.cells.toList ++ cells.toList.drop (i * sz + sz) := by
        have key : ∀ (l : List Value) (k : Nat) (arr : Array Value), i * sz + k + l.length ≤ arr.size →
            ((l.zipIdx k).foldl (fun (cs : Array Value) (x : Value × Nat) => cs.setIfInBounds (i * sz + x.2) x.1) arr).toList = arr.toList.take (i * sz + k) ++ l ++ arr.toList.drop (i * sz + k + l.length) := by
          generalize i * sz = o
          intro l
          induction l with
          | nil => intro k arr _; simp
          | cons u r ih =>
            intro k arr hle
            simp only [List.length_cons] at hle
            rw [List.zipIdx_cons, List.foldl_cons, ih (k + 1) _ (by simp; omega)]
            have hok : o + k < arr.toList.length := by simp; omega
            simp only [Array.toList_setIfInBounds, List.length_cons]
            have e1 : o + (k + 1) = (o + k) + 1 := by omega
            have e2 : o + (k + 1) + r.length = o + k + (r.length + 1) := by omega
            rw [e1] at e2
            rw [e1, e2]
            rw [List.take_succ_eq_append_getElem (by simpa using hok)]
            simp only [List.getElem_set_self, List.append_assoc, List.singleton_append, List.cons_append, List.nil_append]
            rw [List.take_set_of_le (by omega), List.drop_set_of_lt (by omega)]
        have := key v.cells.toList 0 cells (by simp only [Array.length_toList, hvs] at *; omega)
        simp only [Nat.add_zero, Array.length_toList, hvs] at this
        rw [← this, ← Array.foldl_toList]
        simp [Array.toList_zipIdx]
      have hset : (xs.set i x).flatMap D.cells = (xs.flatMap D.cells).take (i * sz) ++ x.cells ++ (xs.flatMap D.cells).drop (i * sz + sz) := by
        rw [flat_take hx, show i * sz + sz = (i + 1) * sz by rw [Nat.add_mul, Nat.one_mul], flat_drop hx, List.set_eq_take_append_cons_drop, if_pos hi]
        simp [List.flatMap_append]
      have hx' : ∀ z ∈ xs.set i x, z.cells.length = sz := fun z hz => by
        rcases List.mem_or_eq_of_mem_set hz with h | h
        · exact hx z h
        · subst h; exact hxc
      obtain ⟨arr, hf, hcv', ho'⟩ := fillRow_ok hsz r s (v.cells.zipIdx.foldl (fun cs (c, j) => cs.setIfInBounds (i * sz + j) c) cells) (xs.set i x) out (by
          rw [e2, hset]
          exact ((hr.take _).app hcv).app (hr.drop _)) hx' hk (fun p hp' => by rw [List.length_set]; exact hlt p (List.mem_cons_of_mem _ hp'))
          (fun k p q hp1 hq1 => hp (k + 1) p q (by simpa using hp1) (by simpa using hq1)) (fun q hq' => hq q (List.mem_cons_of_mem _ hq')) ho
      refine ⟨arr, ?_, hcv', ho'⟩
      have hle' : ¬ (i * sz + v.cells.size > cells.size) := by rw [hvs, hcl]; omega
      simp only [Instr.fill]
      rw [if_neg (by simp only [ne_eq, Bool.or_eq_true, decide_eq_true_eq, not_or]; exact ⟨by simp [hvs], hle'⟩)]
      exact hf
    | _ => simp [fillS] at ho


theorem zeroRow {zs : Array Value} {n : Nat} : ((Array.range (n * zs.size)).map fun i => zs[i % zs.size]!).toList = (List.replicate n zs.toList).flatten := by
  induction n with
  | zero => simp
  | succ n ih =>
    rw [List.replicate_succ', List.flatten_append, ← ih]
    simp only [Array.toList_map, Array.toList_range, List.flatten_cons, List.flatten_nil, List.append_nil]
    rw [Nat.add_mul, Nat.one_mul, List.range_add, List.map_append, List.map_map]
    congr 1
    apply List.ext_getElem
    · simp
    · intro i h1 h2
      have hi : i < zs.size := by simpa using h1
      simp only [List.getElem_map, List.getElem_range, Function.comp, Array.getElem_toList]
      have e : (n * zs.size + i) % zs.size = i := by rw [Nat.mul_comm, Nat.mul_add_mod, Nat.mod_eq_of_lt hi]
      rw [e]
      simp [hi]

theorem zero_reads {m : Mem} {ag : Bool} {zs : List D} {vs : List Value} (hr : ReadsL m vs zs) (h1 : ag = false → zs.length = 1) (n : Nat) :
    ReadsL m (List.replicate n vs).flatten ((List.replicate n (zeroD ag zs)).flatMap D.cells) := by
  have hz : ReadsL m vs (zeroD ag zs).cells := by
    cases ag with
    | true => exact hr
    | false =>
      have := h1 rfl
      cases hr with
      | nil => simp at this
      | cons a b t =>
        cases t with
        | nil =>
          rename_i d
          cases d with
          | agg cs => cases b; simp [Value.oneCell'] at a
          | v x => exact .cons a b .nil
          | sl _ _ _ => exact .cons a b .nil
        | cons _ _ _ => simp at this
  induction n with
  | zero => exact .nil
  | succ n ih => rw [List.replicate_succ, List.replicate_succ, List.flatten_cons, List.flatMap_cons]; exact hz.app ih

theorem qbs_raw (h : Holds g st a w c) {t : TypeId} {n : Nat} (parts : List (Nat × Value)) (ps : List (Nat × V)) (hk : parts.map (·.1) = ps.map (·.1))
    (hp : ∀ (j : Nat) (p : Nat × Value) (q : Nat × V), parts[j]? = some p → ps[j]? = some q → CV c st.L p.2 q.2) (hs : (qbs g.P t n ps).side) :
    ∃ sz xs arr e, (qbs g.P t n ps).val = .d (.sl sz true xs) ∧ (Instr.buildSlice t n parts.toArray).run g.P w = .ok (.slice (some ⟨w.heap.size, 0, none⟩) n n) (w.alloc (.cells arr e)) ∧
      0 < sz ∧ n = xs.length ∧ n ≤ maxLen ∧ (∀ x ∈ xs, x.cells.length = sz) ∧ ReadsL c.m arr.toList (xs.flatMap D.cells) := by
  unfold qbs at hs ⊢
  split at hs
  · rename_i e sz eb ht
    obtain ⟨hu, inf, hi, hn, _⟩ := tk_slice ht
    split at hs
    · rename_i zs ag sz' hz hk'
      obtain ⟨inf', hi', hn'⟩ := ldk_info hk'
      have : inf' = inf := by rw [hi] at hi'; exact (Option.some.inj hi').symm
      subst this
      obtain ⟨z, hrun, hcv, hrd⟩ := tz_ok w c st.L hz
      split at hs
      · rename_i xs hxs
        obtain ⟨hsz, hzl, hag, hbig, hpo⟩ := hs
        have hlen := fillS_len hxs
        rw [List.length_replicate] at hlen
        have hzc : z.cells.size = sz := by have := hrd.length; rw [hzl] at this; simpa using this
        have hfl : ReadsL c.m ((Array.range (n * sz)).map (fun i => z.cells[i % z.cells.size]!)).toList ((List.replicate n (zeroD ag zs)).flatMap D.cells) := by
          rw [← hzc, zeroRow]
          exact zero_reads hrd (fun e => by rcases hag with h | h; · rw [e] at h; cases h
                                            · rw [hzl, h]) n
        have hzd : (zeroD ag zs).cells.length = sz := by
          unfold zeroD
          rcases hag with rfl | h
          · exact hzl
          · cases ag with
            | true => exact hzl
            | false =>
              rw [h] at hzl ⊢
              obtain ⟨d, rfl⟩ := List.length_eq_one_iff.1 hzl
              clear hfl hcv hzc
              generalize z.cells.toList = zl at hrd
              cases hrd with
              | cons a b t =>
                cases d with
                | agg cs => cases b; simp [Value.oneCell'] at a
                | v x => rfl
                | sl _ _ _ => rfl
        have hpo1 : ∀ p ∈ ps, p.1 < n ∧ ∀ x, p.2 = .d x → x.cells.length = sz := by
          clear hxs hk hp
          induction ps with
          | nil => intro p hp; cases hp
          | cons q r ih =>
            obtain ⟨i, y⟩ := q
            cases y with
            | d x =>
              obtain ⟨h1, h2, h3⟩ := hpo
              intro p hp
              rcases List.mem_cons.1 hp with rfl | hp
              · exact ⟨h1, fun x' e => by cases e; exact h2⟩
              · exact ih h3 p hp
            | _ => exact hpo.elim
        obtain ⟨arr, hf, hro, hxo⟩ := fillRow_ok hsz parts ps _ (List.replicate n (zeroD ag zs)) xs hfl (fun x hx => by rw [List.eq_of_mem_replicate hx]; exact hzd) hk
          (fun p hp' => by rw [List.length_replicate]; exact (hpo1 p hp').1)
          (fun j p q h1 h2 x e => by have := hp j p q h1 h2; rw [e] at this; generalize p.2 = pv at this; cases this with | d hr => exact hr) (fun q hq x e => (hpo1 q hq).2 x e) hxs
        refine ⟨sz, xs, arr, e, rfl, ?_, hsz, hlen.symm, ?_, hxo, hro⟩
        · have h0 : ¬ (16777216 < n * sz) := by omega
          have h1 : ¬ (sz = 0) := by omega
          by_cases hn0 : n * sz = 0
          · rw [hn0] at hf
            have e0 : (Array.range 0).map (fun i => z.cells[i % z.cells.size]!) = #[] := by simp [Array.range]
            rw [e0] at hf
            have hf' : Instr.fill (fun i => some (i * sz, sz)) #[] parts = some arr := hf
            simp [Instr.buildSlice, run_underlying hu, sizeOf, typeInfo, hi, hn, hn0, newRow, newObj]
            rw [show Array.map (fun _ => (default : Value)) (Array.range 0) = #[] by simp [Array.range], hf']
            rfl
          · simp [Instr.buildSlice, run_underlying hu, sizeOf, typeInfo, hi, hn, h0, hn0, hrun, newRow, newObj, hf]
            rfl
        · unfold maxLen; have : n ≤ n * sz := Nat.le_mul_of_pos_right n hsz; omega
      · exact hs.elim
    · exact hs.elim
  · exact hs.elim

theorem qbs_ok (h : Holds g st a w c) {t : TypeId} {n : Nat} (parts : List (Nat × Value)) (ps : List (Nat × V)) (hk : parts.map (·.1) = ps.map (·.1))
    (hp : ∀ (j : Nat) (p : Nat × Value) (q : Nat × V), parts[j]? = some p → ps[j]? = some q → CV c st.L p.2 q.2) (hs : (qbs g.P t n ps).side) :
    ∃ r w' c', (Instr.buildSlice t n parts.toArray).run g.P w = .ok r w' ∧ Holds g st a w' c' ∧ Cx.le c c' st.L st.L ∧ CV c' st.L r (qbs g.P t n ps).val := by
  obtain ⟨sz, xs, arr, e, hval, hrun, hz, hn, hm, hx, hr⟩ := qbs_raw h parts ps hk hp hs
  obtain ⟨hH, hle⟩ := h.frz arr e
  refine ⟨_, _, _, hrun, hH, hle, ?_⟩
  rw [hval]
  refine .d (.sl arr.toList hz hn (Nat.le_refl _) hm (fun _ => rfl) hx ?_ (hr.mono hle.m))
  intro i v hv
  simp only [Nat.zero_add, if_true]
  simpa using hv
end
end Go.Ab
