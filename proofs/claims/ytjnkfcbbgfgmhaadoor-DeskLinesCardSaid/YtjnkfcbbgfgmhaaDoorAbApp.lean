/- THE ABSTRACT LAYER, PART 11: rows that grow ('append'). -/
import Derived.Test.YtjnkfcbbgfgmhaaDoorAbEff
set_option linter.unusedSimpArgs false
set_option linter.unusedVariables false
namespace Go.Ab
open Go

section
variable {g : Gx} {st : St} {a : Act} {w : World} {c : Cx}

/-- A row of the call's own in a block that nobody holds. -/
theorem Holds.newRow (h : Holds g st a w c) {d : Nat} (hd : lk d st.L = none) {b : Nat} (hb0 : g.w0.heap.size ≤ b) (hbF : ¬ c.F b) (hbk : ∀ k, (lk k st.L).isSome = true → c.bk k ≠ some b)
    {w' : World} (ho : w'.os = w.os) (ht : w'.tape = w.tape) (hou : w'.output = w.output) (hs : w.heap.size ≤ w'.heap.size) (hkeep : ∀ k, k < w.heap.size → k ≠ b → w'.heap[k]? = w.heap[k]?)
    {cur : Array Value} {ty : TypeId} (hcur : w'.heap[b]? = some (.cells cur ty (0, 0))) {sz cap : Nat} {fz : Bool} {xs : List D} (hz : 0 < sz) (hc : xs.length ≤ cap) (hcm : cap ≤ maxLen) (hsz : cur.size = cap * sz)
    (hx : ∀ x ∈ xs, x.cells.length = sz) (hr : ReadsL c.m (cur.toList.take (xs.length * sz)) (xs.flatMap D.cells))
    (hmb : ∀ o v, c.m b o = some v → fz = true ∧ o < xs.length * sz ∧ cur[o]? = some v) :
    ∃ c', Holds g { st with L := (d, .row sz fz xs) :: st.L } a w' c' ∧ CV c' ((d, .row sz fz xs) :: st.L) (.slice (some ⟨b, 0, none⟩) xs.length cap) (.row d) := by
  let m' : Mem := fun b' o => if b' = b then (if fz = true ∧ o < xs.length * sz then cur[o]? else none) else c.m b' o
  have hle : Mem.le c.m m' := by
    intro b' o v hv
    by_cases e : b' = b
    · subst e
      obtain ⟨h1, h2, h3⟩ := hmb o v hv
      simp only [m', if_true, if_pos (show fz = true ∧ o < xs.length * sz from ⟨h1, h2⟩), h3]
    · simp only [m', if_neg e]; exact hv
  let c' : Cx := { c with m := m', bk := fun k => if k = d then some b else c.bk k, lv := fun k => if k = d then .slice (some ⟨b, 0, none⟩) xs.length cap else c.lv k }
  have hcc : Cx.le c c' st.L ((d, .row sz fz xs) :: st.L) := by
    refine ⟨hle, fun k hk => ?_, fun k b hk hb => ?_, fun k sz' fz' xs' hk => ?_⟩
    · rw [lk_cons]; split
      · rfl
      · exact hk
    · have : k ≠ d := fun e => by subst e; rw [hd] at hk; cases hk
      simp only [c', if_neg this]; exact hb
    · have : k ≠ d := fun e => by subst e; rw [hd] at hk; cases hk
      refine ⟨by simp only [c', if_neg this], fz', xs', rfl, ?_⟩
      rw [lk_cons, if_neg (Ne.symm this)]; exact hk
  refine ⟨c', ⟨h.defers, h.slots, ?_, ?_, ?_, ?_, h.mono.trans hle, ?_, ?_, ?_, h.foot, ?_, ?_⟩, ?_⟩
  · intro k x hk
    obtain ⟨v, hv, hcv⟩ := h.env k x hk
    exact ⟨v, hv, hcv.mono hcc⟩
  · intro k o hk
    simp only at hk
    rw [lk_cons] at hk
    split at hk
    · rename_i e; subst e
      cases hk
      exact .row hz (by simp [c']) (by simp [c']) hcur hc hcm hsz hx (hr.mono hle) (fun j => by simp only [c', m', if_true])
    · rename_i hne
      have hlo := h.loc k o hk
      have hkS : (lk k st.L).isSome = true := by rw [hk]; rfl
      refine hlo.keep hcc (by simp [c', Ne.symm hne]) (by simp [c', Ne.symm hne]) fun b' hb' => ?_
      have hbb : b' ≠ b := fun e => hbk k hkS (by rw [hb', e])
      exact ⟨hkeep b' (hlo.blk hb') hbb, fun j => by simp only [c', m', if_neg hbb]⟩
  · refine h.heap.keep hle fun b' hf => ?_
    have hbb : b' ≠ b := fun e => hbF (e ▸ hf)
    exact ⟨hkeep b' (h.inw b' hf) hbb, fun j => by simp only [c', m', if_neg hbb]⟩
  · intro b' o v hv
    simp only [c', m'] at hv
    by_cases e : b' = b
    · subst e
      rw [if_pos rfl] at hv
      split at hv
      · rw [cell_of_row w' b' o cur ty _ hcur]; exact hv
      · cases hv
    · rw [if_neg e] at hv
      rw [World.cell?_of_block (a := ⟨b', o, none⟩) (hkeep b' (h.agr.lt hv) e)]
      exact h.agr b' o v hv
  · refine h.later.trans ho ht hou hs fun k hk _ => hkeep k (Nat.lt_of_lt_of_le hk h.later.size) (by omega)
  · intro j k b' hj hk hbj hbk'
    simp only [c'] at hj hk hbj hbk'
    have old : ∀ {j}, (lk j ((d, LO.row sz fz xs) :: st.L)).isSome = true → j ≠ d → (lk j st.L).isSome = true := fun {j} hj hne => by rw [lk_cons, if_neg (Ne.symm hne)] at hj; exact hj
    by_cases ej : j = d
    · by_cases ek : k = d
      · rw [ej, ek]
      · rw [if_pos ej] at hbj
        rw [if_neg ek] at hbk'
        cases hbj
        exact absurd hbk' (hbk k (old hk ek))
    · rw [if_neg ej] at hbj
      by_cases ek : k = d
      · rw [if_pos ek] at hbk'
        cases hbk'
        exact absurd hbj (hbk j (old hj ej))
      · rw [if_neg ek] at hbk'
        exact h.inj j k b' (old hj ej) (old hk ek) hbj hbk'
  · intro j b' hj hb'
    simp only [c'] at hj hb'
    by_cases ej : j = d
    · rw [if_pos ej] at hb'
      cases hb'
      exact ⟨hb0, hbF⟩
    · rw [if_neg ej] at hb'
      rw [lk_cons, if_neg (Ne.symm ej)] at hj
      exact h.fresh j b' hj hb'
  · intro b' hb' hf
    have : b' ≠ b := by omega
    show m' b' = _
    have : m' b' = c.m b' := by funext o; simp only [m', if_neg this]
    rw [this]; exact h.old b' hb' hf
  · intro b' hf
    exact Nat.lt_of_lt_of_le (h.inw b' hf) hs
  · have := CV.row (c := c') (L := (d, LO.row sz fz xs) :: st.L) (i := d) (sz := sz) (fz := fz) (xs := xs) (by rw [lk_cons, if_pos rfl])
    simp only [c', if_true] at this
    exact this

/-- A row that is nil. -/
theorem Holds.nilRow (h : Holds g st a w c) {d : Nat} (hd : lk d st.L = none) (sz : Nat) (fz : Bool) :
    ∃ c', Holds g { st with L := (d, .row sz fz []) :: st.L } a w c' ∧ Cx.le c c' st.L ((d, .row sz fz []) :: st.L) ∧ CV c' ((d, .row sz fz []) :: st.L) (.slice none 0 0) (.row d) := by
  let c' : Cx := { c with bk := fun k => if k = d then none else c.bk k, lv := fun k => if k = d then .slice none 0 0 else c.lv k }
  have hcc : Cx.le c c' st.L ((d, .row sz fz []) :: st.L) := by
    refine ⟨.refl _, fun k hk => ?_, fun k b hk hb => ?_, fun k sz' fz' xs' hk => ?_⟩
    · rw [lk_cons]; split
      · rfl
      · exact hk
    · have : k ≠ d := fun e => by subst e; rw [hd] at hk; cases hk
      simp only [c', if_neg this]; exact hb
    · have : k ≠ d := fun e => by subst e; rw [hd] at hk; cases hk
      refine ⟨by simp only [c', if_neg this], fz', xs', rfl, ?_⟩
      rw [lk_cons, if_neg (Ne.symm this)]; exact hk
  have old : ∀ {j b}, (lk j ((d, LO.row sz fz []) :: st.L)).isSome = true → c'.bk j = some b → (lk j st.L).isSome = true ∧ c.bk j = some b := by
    intro j b hj hb
    simp only [c'] at hb
    split at hb
    · cases hb
    · rename_i hne
      rw [lk_cons, if_neg (Ne.symm hne)] at hj
      exact ⟨hj, hb⟩
  refine ⟨c', ⟨h.defers, h.slots, ?_, ?_, h.heap, h.agr, h.mono, h.later, ?_, ?_, h.foot, h.old, h.inw⟩, hcc, ?_⟩
  · intro k x hk
    obtain ⟨v, hv, hcv⟩ := h.env k x hk
    exact ⟨v, hv, hcv.mono hcc⟩
  · intro k o hk
    simp only at hk
    rw [lk_cons] at hk
    split at hk
    · rename_i e; subst e
      cases hk
      exact .nil (by simp [c']) (by simp [c'])
    · rename_i hne
      exact (h.loc k o hk).keep hcc (by simp [c', Ne.symm hne]) (by simp [c', Ne.symm hne]) fun b' hb' => ⟨rfl, fun _ => rfl⟩
  · intro j k b' hj hk hbj hbk'
    exact h.inj j k b' (old hj hbj).1 (old hk hbk').1 (old hj hbj).2 (old hk hbk').2
  · intro j b' hj hb'
    exact h.fresh j b' (old hj hb').1 (old hj hb').2
  · have := CV.row (c := c') (L := (d, LO.row sz fz []) :: st.L) (i := d) (sz := sz) (fz := fz) (xs := []) (by rw [lk_cons, if_pos rfl])
    simp only [c', if_true] at this
    exact this

/-- What is to be appended: its cells. -/
theorem reads_news {m : Mem} {v : Value} {sz' : Nat} {f : Bool} {ys : List D} (hr : Reads m v (.sl sz' f ys)) (ha : Agrees m w) {sz : Nat} (he : ys = [] ∨ sz' = sz) :
    ∃ (base : Option Addr) (n cap : Nat) (news : List Value), v = .slice base n cap ∧ n = ys.length ∧ news.length = n * sz ∧ ReadsL m news (ys.flatMap D.cells) ∧ (∀ x ∈ ys, x.cells.length = sz) ∧
      ((base = none ∧ ys = []) ∨ ∃ ad, base = some ad ∧ ∀ j u, news[j]? = some u → w.cell? (ad.add j) = some u) := by
  cases hr with
  | nil => exact ⟨none, 0, 0, [], rfl, rfl, by simp, .nil, by simp, .inl ⟨rfl, rfl⟩⟩
  | @sl0 a => exact ⟨some a, 0, 0, [], rfl, rfl, by simp, .nil, by simp, .inr ⟨_, rfl, fun j u hu => by simp at hu⟩⟩
  | @sl b off n cp _ _ _ vals hz hn hc hcm hf hx hm hr =>
    subst hn
    by_cases hy : ys = []
    · subst hy
      refine ⟨some ⟨b, off, none⟩, 0, cp, [], rfl, rfl, by simp, .nil, by simp, .inr ⟨_, rfl, fun j u hu => by simp at hu⟩⟩
    · have e : sz' = sz := he.resolve_left hy
      subst e
      refine ⟨some ⟨b, off, none⟩, _, cp, vals, rfl, rfl, ?_, hr, hx, .inr ⟨_, rfl, fun j u hu => ?_⟩⟩
      · rw [hr.length, flat_len hx]
      · rw [add_off]; exact ha _ _ _ (hm j u hu)

theorem run_append_room' {P : Program} (w : World) (t ty e ty' : TypeId) (i : TypeInfo) (ht : P.underlying t = some (.slice e)) (hi : P.info? e = some i)
    (g sLen sCap : Nat) (cur : Array Value) (hg : w.heap[g]? = some (.cells cur ty' (0, 0)))
    (a : Addr) (m c : Nat) (news : List Value) (hl : news.length = m * i.size) (hnews : ∀ j u, news[j]? = some u → w.cell? (a.add j) = some u) (h1 : ∀ u ∈ news, u.oneCell' = true)
    (hroom : sLen + m ≤ sCap) (hfit : sLen * i.size + news.length ≤ cur.size) :
    (Builtin.append_ #[t, t] ty #[.slice (some ⟨g, 0, none⟩) sLen sCap, .slice (some a) m c]).run P w =
      .ok (.slice (some ⟨g, 0, none⟩) (sLen + m) sCap) (w.setRow g (cur.toList.take (sLen * i.size) ++ news ++ cur.toList.drop (sLen * i.size + news.length)).toArray) := by
  have hf := run_firstCells_some (P := P) w i.size m a m c news hl hnews
  have hst := run_storeCells_at P g (sLen * i.size) ty' news 0 cur w hg (by simpa using hfit) h1
  simp only [Nat.add_zero] at hst
  simp [Builtin.append_, run_underlying ht, sizeOf, typeInfo, hi, Builtin.lenOf, hroom, hf, Addr.add_lit, hst]
theorem run_append_none {P : Program} (w : World) (t ty e : TypeId) (i : TypeInfo) (ht : P.underlying t = some (.slice e)) (hi : P.info? e = some i) (base : Option Addr) (sLen sCap : Nat) (hle : sLen ≤ sCap) :
    (Builtin.append_ #[t, t] ty #[.slice base sLen sCap, .slice none 0 0]).run P w = .ok (.slice base sLen sCap) w := by
  cases base <;> simp [Builtin.append_, run_underlying ht, sizeOf, typeInfo, hi, Builtin.lenOf, hle, Builtin.firstCells, storeCells]
theorem run_append_zero {P : Program} (w : World) (t ty e : TypeId) (i : TypeInfo) (ht : P.underlying t = some (.slice e)) (hi : P.info? e = some i) (base : Option Addr) (sLen sCap : Nat) (hle : sLen ≤ sCap) (ad : Addr) (c : Nat) :
    (Builtin.append_ #[t, t] ty #[.slice base sLen sCap, .slice (some ad) 0 c]).run P w = .ok (.slice base sLen sCap) w := by
  cases base <;> simp [Builtin.append_, run_underlying ht, sizeOf, typeInfo, hi, Builtin.lenOf, hle, Builtin.firstCells, storeCells, loadCells, loadCellsFrom]

/-- The slice that is appended to: what it holds, how it lies, and what the appended row may be made of. -/
inductive Onto (g : Gx) (st : St) (w : World) (c : Cx) (sz : Nat) (fz : Bool) (ys : List D) : Value → List D → Prop
  | nil : Onto g st w c sz fz ys (.slice none 0 0) []
  | full {v xs f} (hr : Reads c.m v (.sl sz f xs)) (hf : f = true) (hy : ys ≠ []) : Onto g st w c sz fz ys v xs
  | own {b cap cur ty xs} (hb0 : g.w0.heap.size ≤ b) (hbF : ¬ c.F b) (hbk : ∀ k, (lk k st.L).isSome = true → c.bk k ≠ some b) (hh : w.heap[b]? = some (.cells cur ty (0, 0)))
      (hc : xs.length ≤ cap) (hcm : cap ≤ maxLen) (hs : cur.size = cap * sz) (hx : ∀ x ∈ xs, x.cells.length = sz) (hr : ReadsL c.m (cur.toList.take (xs.length * sz)) (xs.flatMap D.cells))
      (hm : ∀ j, c.m b j = if fz = true ∧ j < xs.length * sz then cur[j]? else none) : Onto g st w c sz fz ys (.slice (some ⟨b, 0, none⟩) xs.length cap) xs

/-- 'append' TO A ROW: the result is a row of the call's own. (A full slice of others: at least one element more.) -/
theorem append_row (h : Holds g st a w c) {t e sz eb : Nat} (ht : tk g.P t = .slice e sz eb) {zs : List D} (hzs : tz g.P e = some zs) (hzl : zs.length = sz) (hz : 0 < sz) (ty : TypeId) {d : Nat} (hd : lk d st.L = none) {fz : Bool}
    {s x : Value} {xs ys : List D} {sz' : Nat} {f : Bool} (hs : Onto g st w c sz fz ys s xs) (hx : Reads c.m x (.sl sz' f ys)) (he : ys = [] ∨ sz' = sz)
    (hby : (xs.length + ys.length) * eb ≤ 140737488355328) (hml : xs.length + ys.length ≤ maxLen) :
    ∃ r w' c', (Builtin.append_ #[t, t] ty #[s, x]).run g.P w = .ok r w' ∧ Holds g { st with L := (d, .row sz fz (xs ++ ys)) :: st.L } a w' c' ∧ CV c' ((d, .row sz fz (xs ++ ys)) :: st.L) r (.row d) := by
  obtain ⟨hu, i, hi, hsz, hbt⟩ := tk_slice ht
  obtain ⟨base, n, cap, news, rfl, hn, hnl, hnr, hnx, hbase⟩ := reads_news (sz := sz) hx h.agr he
  have hn1 := hnr.one
  obtain ⟨z, hz0, _, hzr⟩ := tz_ok w c st.L hzs
  have hzi : i.zero = some z := by
    unfold tz at hzs
    simp only [hi, Option.bind_some] at hzs
    cases hzz : i.zero with
    | none => simp [hzz] at hzs
    | some z' =>
      simp [zeroValue, typeInfo, hi, hzz] at hz0
      rw [hz0]
  have hzc : z.cells.size = sz := by have := hzr.length; rw [hzl] at this; simpa using this
  -- a new block
  have fresh : ∀ (olds : List Value) (old : Nat), olds.length = xs.length * sz → ReadsL c.m olds (xs.flatMap D.cells) → (∀ x ∈ xs, x.cells.length = sz) →
      ∃ c', Holds g { st with L := (d, .row sz fz (xs ++ ys)) :: st.L } a (w.drew.alloc (.cells (olds.toArray ++ news.toArray ++ Builtin.zeroCells z.cells (grownCap w (xs.length + n) old e - (xs.length + n))) e)) c' ∧
        CV c' ((d, .row sz fz (xs ++ ys)) :: st.L) (.slice (some ⟨w.heap.size, 0, none⟩) (xs.length + n) (grownCap w (xs.length + n) old e)) (.row d) := by
    intro olds old hol hor hox
    have hge := grownCap_ge w (xs.length + n) old e
    have hcm := grownCap_le_maxLen w (xs.length + n) old e (by rw [hn]; exact hml)
    have hlen : (xs ++ ys).length = xs.length + n := by rw [List.length_append, hn]
    have := h.drew.newRow (w' := w.drew.alloc (.cells (olds.toArray ++ news.toArray ++ Builtin.zeroCells z.cells (grownCap w (xs.length + n) old e - (xs.length + n))) e)) hd (b := w.heap.size) h.later.size
      (fun hf => by have := h.inw _ hf; omega) (fun k hk hb => by
        obtain ⟨o, ho⟩ := Option.isSome_iff_exists.1 hk
        have := (h.loc k o ho).blk hb; omega) rfl rfl rfl (by simp) (fun k hk _ => heap_alloc_old w.drew _ k hk) (heap_alloc_new w.drew _) (sz := sz) (cap := grownCap w (xs.length + n) old e) (fz := fz) (xs := xs ++ ys) hz
      (by rw [hlen]; exact hge) hcm (by
        simp only [Array.size_append, List.size_toArray, size_zeroCells, hzc, hol, hnl, ← Nat.add_mul]
        congr 1; omega) (fun x hx => (List.mem_append.1 hx).elim (hox x) (hnx x)) (by
        rw [hlen, List.flatMap_append]
        have e1 : (olds.toArray ++ news.toArray ++ Builtin.zeroCells z.cells (grownCap w (xs.length + n) old e - (xs.length + n))).toList.take ((xs.length + n) * sz) = olds ++ news := by
          simp only [Array.toList_append, List.append_assoc]
          rw [← List.append_assoc]
          have : (xs.length + n) * sz = (olds ++ news).length := by rw [List.length_append, hol, hnl, Nat.add_mul]
          rw [this]; exact List.take_left
        rw [e1]; exact hor.app hnr) (fun o v hv => by rw [h.agr.out (Nat.le_refl _)] at hv; cases hv)
    rw [hlen] at this
    exact this
  have hfit : ∀ old, old < xs.length + n → Builtin.nextslicecap (xs.length + n) old * i.bytes ≤ 281474976710656 := fun old ho => growslice_fits ho (by rw [hbt, hn]; exact hby)
  have h63 : ((xs.length + n : Nat) : Int) ≤ 9223372036854775807 := by unfold maxLen at hml; omega
  subst hsz
  cases hs with
  | nil =>
    rcases hbase with ⟨rfl, rfl⟩ | ⟨ad, rfl, hcell⟩
    · cases hx
      refine ⟨.slice none 0 0, w, ?_⟩
      obtain ⟨c', h1, _, h3⟩ := h.nilRow hd i.size fz
      exact ⟨c', run_append_none w t ty e i hu hi none 0 0 (Nat.le_refl _), by simpa using h1, by simpa using h3⟩
    · by_cases hy : n = 0
      · subst hy
        have hys : ys = [] := List.eq_nil_of_length_eq_zero hn.symm
        subst hys
        obtain ⟨c', h1, _, h3⟩ := h.nilRow hd i.size fz
        exact ⟨.slice none 0 0, w, c', run_append_zero w t ty e i hu hi none 0 0 (Nat.le_refl _) ad cap, by simpa using h1, by simpa using h3⟩
      · obtain ⟨c', h1, h2⟩ := fresh [] 0 (by simp) .nil (by simp)
        simp only [List.length_nil, Nat.zero_add] at h1 h2 hfit h63
        refine ⟨_, _, c', run_append_nil w t ty e i z hu hi hzi ad n cap news hnl hcell (by omega) h63 ?_, by simpa using h1, h2⟩
        have := hfit 0 (by omega)
        rw [nextslicecap_zero (by omega)] at this
        exact this
  | @full v xs f hr hf hys =>
    subst hf
    cases hr with
    | nil =>
      rcases hbase with ⟨rfl, rfl⟩ | ⟨ad, rfl, hcell⟩
      · exact absurd rfl hys
      · have hn0 : 0 < n := by rw [hn]; exact List.length_pos_iff.2 hys
        obtain ⟨c', h1, h2⟩ := fresh [] 0 (by simp) .nil (by simp)
        simp only [List.length_nil, Nat.zero_add] at h1 h2 hfit h63
        refine ⟨_, _, c', run_append_nil w t ty e i z hu hi hzi ad n cap news hnl hcell (by omega) h63 ?_, by simpa using h1, h2⟩
        have := hfit 0 (by omega)
        rw [nextslicecap_zero (by omega)] at this
        exact this
    | @sl0 ad0 =>
      have hn0 : 0 < n := by rw [hn]; exact List.length_pos_iff.2 hys
      rcases hbase with ⟨_, rfl⟩ | ⟨ad, rfl, hcell⟩
      · exact absurd rfl hys
      · obtain ⟨c', h1, h2⟩ := fresh [] 0 (by simp) .nil (by simp)
        exact ⟨_, _, c', run_append_grow w t ty e i z hu hi hzi ad0 0 0 [] (by simp) (fun j v hv => by simp at hv) ad n cap news hnl hcell (by omega) h63 (hfit _ (by simp; omega)), h1, h2⟩
    | @sl b off sn cp _ _ _ vals hz' hn' hc hcm hf hx' hm hr =>
      subst hn'
      have hcp := hf rfl
      subst hcp
      have hn0 : 0 < n := by rw [hn]; exact List.length_pos_iff.2 hys
      rcases hbase with ⟨_, rfl⟩ | ⟨ad, rfl, hcell⟩
      · exact absurd rfl hys
      · have hol : vals.length = xs.length * i.size := by rw [hr.length, flat_len hx']
        obtain ⟨c', h1, h2⟩ := fresh vals xs.length hol hr hx'
        exact ⟨_, _, c', run_append_grow w t ty e i z hu hi hzi ⟨b, off, none⟩ xs.length xs.length vals hol (fun j v hv => by rw [add_off]; exact h.agr _ _ _ (hm j v hv)) ad n cap news hnl hcell (by omega) h63 (hfit _ (by omega)), h1, h2⟩
  | @own b scap cur ty' xs hb0 hbF hbk hh hc hcm hs hx' hr hm =>
    have same : ∃ c', Holds g { st with L := (d, .row i.size fz xs) :: st.L } a w c' ∧ CV c' ((d, .row i.size fz xs) :: st.L) (.slice (some ⟨b, 0, none⟩) xs.length scap) (.row d) :=
      h.newRow hd hb0 hbF hbk rfl rfl rfl (Nat.le_refl _) (fun _ _ _ => rfl) hh hz hc hcm hs hx' hr (fun o v hv => by
        rw [hm] at hv
        split at hv
        · rename_i hq; exact ⟨hq.1, hq.2, hv⟩
        · cases hv)
    have hcl : cur.toList.length = scap * i.size := by simp [hs]
    have htl : (cur.toList.take (xs.length * i.size)).length = xs.length * i.size := by
      rw [List.length_take, hcl]; exact Nat.min_eq_left (Nat.mul_le_mul_right _ hc)
    rcases hbase with ⟨rfl, rfl⟩ | ⟨ad, rfl, hcell⟩
    · cases hx
      obtain ⟨c', h1, h2⟩ := same
      exact ⟨_, w, c', run_append_none w t ty e i hu hi _ _ _ hc, by simpa using h1, by simpa using h2⟩
    · by_cases hroom : xs.length + n ≤ scap
      · have hfit' : xs.length * i.size + news.length ≤ cur.size := by rw [hnl, hs, ← Nat.add_mul]; exact Nat.mul_le_mul_right _ hroom
        have hrun := run_append_room' (P := g.P) w t ty e ty' i hu hi b xs.length scap cur hh ad n cap news hnl hcell hn1 hroom hfit'
        have hlen : (xs ++ ys).length = xs.length + n := by rw [List.length_append, hn]
        have := h.newRow (w' := w.setRow b (cur.toList.take (xs.length * i.size) ++ news ++ cur.toList.drop (xs.length * i.size + news.length)).toArray) hd hb0 hbF hbk rfl rfl rfl (by simp) (fun k _ hk => setRow_other w b k _ hk)
          (setRow_heap w b cur _ ty' _ hh) (sz := i.size) (cap := scap) (fz := fz) (xs := xs ++ ys) hz (by rw [hlen]; exact hroom) hcm (by
            simp only [List.size_toArray, List.length_append, List.length_drop, htl, hcl]; rw [hs] at hfit'; omega) (fun x hx => (List.mem_append.1 hx).elim (hx' x) (hnx x)) (by
            rw [hlen, List.flatMap_append]
            have e1 : (cur.toList.take (xs.length * i.size) ++ news ++ cur.toList.drop (xs.length * i.size + news.length)).toArray.toList.take ((xs.length + n) * i.size) = cur.toList.take (xs.length * i.size) ++ news := by
              have : (xs.length + n) * i.size = (cur.toList.take (xs.length * i.size) ++ news).length := by rw [List.length_append, htl, hnl, Nat.add_mul]
              rw [this]; exact List.take_left
            rw [e1]; exact hr.app hnr) (fun o v hv => by
            rw [hm] at hv
            split at hv
            · rename_i hq
              refine ⟨hq.1, by rw [hlen, Nat.add_mul]; omega, ?_⟩
              rw [← hv]
              simp only [List.getElem?_toArray, List.append_assoc]
              rw [List.getElem?_append_left (by rw [htl]; exact hq.2), List.getElem?_take, if_pos hq.2]
              simp
            · cases hv)
        obtain ⟨c', h1, h2⟩ := this
        rw [hlen] at h2
        exact ⟨_, _, c', hrun, h1, h2⟩
      · obtain ⟨c', h1, h2⟩ := fresh (cur.toList.take (xs.length * i.size)) scap htl hr hx'
        exact ⟨_, _, c', run_append_grow w t ty e i z hu hi hzi ⟨b, 0, none⟩ xs.length scap _ htl (fun j v hv => by
          rw [add_off, Nat.zero_add, cell_of_row w b j cur ty' _ hh]
          rw [List.getElem?_take] at hv
          split at hv
          · simpa using hv
          · cases hv) ad n cap news hnl hcell (by omega) h63 (hfit _ (by omega)), h1, h2⟩
end
end Go.Ab
