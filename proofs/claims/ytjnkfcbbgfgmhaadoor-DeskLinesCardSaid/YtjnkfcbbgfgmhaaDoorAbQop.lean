/- THE ABSTRACT LAYER, PART 4: 'qop': what a quiet operation comes to; and that it does. -/
import Derived.Test.YtjnkfcbbgfgmhaaDoorAbQuiet
import Derived.Laws.BytesArg
set_option linter.unusedSimpArgs false
set_option linter.unusedVariables false
namespace Go.Ab
open Go

theorem flat_at {sz : Nat} : ∀ {xs : List D} (_ : ∀ x ∈ xs, x.cells.length = sz) (i : Nat) (x : D), xs[i]? = some x → ((xs.flatMap D.cells).drop (i * sz)).take sz = x.cells
  | [], _, _, _, h => by simp at h
  | y :: r, hx, 0, x, h => by
    have e : y = x := by simpa using h
    subst e
    have := hx y (List.mem_cons_self ..)
    simp only [Nat.zero_mul, List.drop_zero, List.flatMap_cons]
    rw [← this, List.take_left']
    rfl
  | y :: r, hx, i + 1, x, h => by
    have h0 := hx y (List.mem_cons_self ..)
    have ih := flat_at (xs := r) (fun x hx' => hx x (List.mem_cons_of_mem _ hx')) i x (by simpa using h)
    simp only [List.flatMap_cons]
    have e : (i + 1) * sz = y.cells.length + i * sz := by rw [h0, Nat.add_mul, Nat.one_mul, Nat.add_comm]
    rw [e, ← List.drop_drop, List.drop_left]
    exact ih
theorem flat_len {sz : Nat} : ∀ {xs : List D} (_ : ∀ x ∈ xs, x.cells.length = sz), (xs.flatMap D.cells).length = xs.length * sz
  | [], _ => by simp
  | y :: r, hx => by
    have h0 := hx y (List.mem_cons_self ..)
    have ih := flat_len (xs := r) (fun x hx' => hx x (List.mem_cons_of_mem _ hx'))
    rw [List.flatMap_cons, List.length_append, ih, h0, List.length_cons, Nat.add_mul, Nat.one_mul, Nat.add_comm]
theorem flat_drop {sz : Nat} : ∀ {xs : List D} (_ : ∀ x ∈ xs, x.cells.length = sz) (n : Nat), (xs.flatMap D.cells).drop (n * sz) = (xs.drop n).flatMap D.cells
  | _, _, 0 => by simp
  | [], _, n + 1 => by simp
  | y :: r, hx, n + 1 => by
    have h0 := hx y (List.mem_cons_self ..)
    have e : (n + 1) * sz = y.cells.length + n * sz := by rw [h0, Nat.add_mul, Nat.one_mul, Nat.add_comm]
    rw [List.flatMap_cons, e, ← List.drop_drop, List.drop_left, List.drop_succ_cons]
    exact flat_drop (fun x hx' => hx x (List.mem_cons_of_mem _ hx')) n
theorem flat_take {sz : Nat} : ∀ {xs : List D} (_ : ∀ x ∈ xs, x.cells.length = sz) (n : Nat), (xs.flatMap D.cells).take (n * sz) = (xs.take n).flatMap D.cells
  | _, _, 0 => by simp
  | [], _, n + 1 => by simp
  | y :: r, hx, n + 1 => by
    have h0 := hx y (List.mem_cons_self ..)
    have e : (n + 1) * sz = y.cells.length + n * sz := by rw [h0, Nat.add_mul, Nat.one_mul, Nat.add_comm]
    rw [List.flatMap_cons, e, List.take_succ_cons, List.flatMap_cons, List.take_length_add_append]
    congr 1
    exact flat_take (fun x hx' => hx x (List.mem_cons_of_mem _ hx')) n

theorem getD_some {xs : List D} {i : Nat} (h : i < xs.length) : xs[i]? = some (xs.getD i default) := by
  rw [List.getD_eq_getElem?_getD, List.getElem?_eq_getElem h]; rfl

theorem run_indexAt_slice {P : Program} {w : World} {t e n b} (ht : tk P t = .slice e n b) (k : IntKind) (i : Int) (blk o len cap : Nat) (h0 : 0 ≤ i) (h1 : i < len) :
    (Instr.indexAt t (.slice (some ⟨blk, o, none⟩) len cap) (.int k i)).run P w = .ok (.pointer (some ⟨blk, o + i.toNat * n, none⟩)) w := by
  obtain ⟨hu, inf, hi, hn, _⟩ := tk_slice ht
  have hc : 0 ≤ i ∧ i < (len : Int) := ⟨h0, h1⟩
  simp [Instr.indexAt, asIntOf, run_underlying hu, hc, sizeOf, typeInfo, hi, hn, add_off]
theorem run_indexAt_array {P : Program} {w : World} {t e n s b} (ht : tk P t = .array n e s b) (k : IntKind) (i : Int) (blk o : Nat) (h0 : 0 ≤ i) (h1 : i < n) :
    (Instr.indexAt t (.pointer (some ⟨blk, o, none⟩)) (.int k i)).run P w = .ok (.pointer (some ⟨blk, o + i.toNat * s, none⟩)) w := by
  obtain ⟨hu, hk⟩ := tk_array ht
  obtain ⟨inf, hi, hn⟩ := ldk_info hk
  have hc : 0 ≤ i ∧ i < (n : Int) := ⟨h0, h1⟩
  simp [Instr.indexAt, Instr.sureAddr, asIntOf, run_underlying hu, hc, sizeOf, typeInfo, hi, hn, add_off]
theorem run_fieldAt_at {P : Program} {w : World} {t f o n ag} (hf : fieldAt P t f = some (o, n, ag)) (hn : n ≠ 0) (blk p : Nat) :
    (Instr.fieldAt t (.pointer (some ⟨blk, p, none⟩)) f).run P w = .ok (.pointer (some ⟨blk, p + o, none⟩)) w := by
  unfold fieldAt at hf
  cases ht : tk P t with
  | struct fs =>
    rw [ht] at hf
    obtain ⟨fa, hu, rfl⟩ := tk_struct ht
    simp only [List.getElem?_map, Option.map_eq_some_iff] at hf
    obtain ⟨fl, hfl, hx⟩ := hf
    have hfa : fa[f]? = some fl := by simpa using hfl
    cases hk : ldk P fl.type with
    | none => rw [hk] at hx; simp at hx; exact absurd hx.2.1.symm hn
    | some bn =>
      obtain ⟨b, n'⟩ := bn
      rw [hk] at hx
      simp at hx
      obtain ⟨rfl, rfl, rfl⟩ := hx
      obtain ⟨_, hs⟩ := ldk_agg hk w
      simp [Instr.fieldAt, run_underlying hu, hfa, Instr.sureAddr, fieldPlace, hs, hn, add_off]
  | _ => rw [ht] at hf; simp at hf
theorem fieldAt_info {P : Program} {t f o n ag} (hf : fieldAt P t f = some (o, n, ag)) (hn : n ≠ 0) : ∃ (fa : Array Field) (fl : Field), P.underlying t = some (.struct fa) ∧ fa[f]? = some fl ∧ fl.offset = o ∧ ldk P fl.type = some (ag, n) := by
  unfold fieldAt at hf
  cases ht : tk P t with
  | struct fs =>
    rw [ht] at hf
    obtain ⟨fa, hu, rfl⟩ := tk_struct ht
    simp only [List.getElem?_map, Option.map_eq_some_iff] at hf
    obtain ⟨fl, hfl, hx⟩ := hf
    have hfa : fa[f]? = some fl := by simpa using hfl
    cases hk : ldk P fl.type with
    | none => rw [hk] at hx; simp at hx; exact absurd hx.2.1.symm hn
    | some bn =>
      obtain ⟨b, n'⟩ := bn
      rw [hk] at hx
      simp at hx
      obtain ⟨rfl, rfl, rfl⟩ := hx
      exact ⟨fa, fl, hu, hfa, rfl, hk⟩
  | _ => rw [ht] at hf; simp at hf

theorem ReadsA.len {m : Mem} {vs : List Value} {ds : List D} (h : ReadsA m vs ds) : vs.length = ds.length := by
  induction h with
  | nil => rfl
  | cons _ _ ih => simp [ih]

section
variable {g : Gx} {st : St} {a : Act} {w : World} {c : Cx}

theorem qlen_ok (h : Holds g st a w c) {t ty : TypeId} {x : V} {v : Value} (hv : CV c st.L v x) (hs : (qlen g.P st t x).side) :
    ∃ r, (Builtin.len_ #[t] ty #[v]).run g.P w = .ok r w ∧ CV c st.L r (qlen g.P st t x).val ∧ (qlen g.P st t x).gain := by
  unfold qlen at hs ⊢
  split at hs
  · rename_i s ht
    obtain ⟨rfl, hl⟩ := hv.string
    refine ⟨_, run_len_string w t ty s (tk_string ht), ?_, hl⟩
    rw [size_sb]; exact .ofInt _ _
  · rename_i e n b sz f xs ht
    obtain ⟨hu, _⟩ := tk_slice ht
    cases hv with
    | d hr =>
      cases hr with
      | nil => exact ⟨_, by simp [Builtin.len_, run_underlying hu]; rfl, .ofInt _ _, by simp⟩
      | sl0 hz => exact ⟨_, by simp [Builtin.len_, run_underlying hu]; rfl, .ofInt _ _, by simp⟩
      | sl vals hz hn hc hcm hf hx hm hr => subst hn; exact ⟨_, by simp [Builtin.len_, run_underlying hu]; rfl, .ofInt _ _, by show _ ≤ _; omega⟩
  · rename_i e n b i ht
    obtain ⟨hu, _⟩ := tk_slice ht
    split at hs
    · rename_i sz fz xs hl
      generalize hx : V.row i = y at hv
      cases hv <;> cases hx
      cases h.loc i _ hl with
      | nil hv hb => exact ⟨_, by rw [hv]; simp [Builtin.len_, run_underlying hu]; rfl, .ofInt _ _, by simp⟩
      | row hz hv hb hh hc hcm _ _ _ _ => exact ⟨_, by rw [hv]; simp [Builtin.len_, run_underlying hu]; rfl, .ofInt _ _, by show _ ≤ _; omega⟩
    · exact hs.elim
  · rename_i e n b ad n' cp ht
    obtain ⟨hu, _⟩ := tk_slice ht
    have := hv.v; subst this
    exact ⟨_, by simp [Builtin.len_, run_underlying hu]; rfl, .ofInt _ _, trivial⟩
  · rename_i k e b ht
    have hu := tk_map ht
    have := hv.v; subst this
    split at hs
    · rename_i es hb
      cases h.heap.at_ b _ hb with
      | map hh hk hv =>
        rename_i entries clock
        refine ⟨.int .i64 entries.size, by simp [Builtin.len_, run_underlying hu, getObj, Sem.run, hh]; rfl, ?_, trivial⟩
        have := hk.len
        simp only [List.length_map, Array.length_toList] at this
        rw [this]; exact .ofInt _ _
    · exact hs.elim
  · exact hs.elim

theorem qidx_ok {P : Program} {L : List (Nat × LO)} {t : TypeId} {x i : V} {v u : Value} (hv : CV c L v x) (hu : CV c L u i) (hs : (qidx P t x i).side) :
    ∃ r, (Instr.index t v u).run P w = .ok r w ∧ CV c L r (qidx P t x i).val := by
  unfold qidx at hs ⊢
  split at hs
  · rename_i s k n ht
    obtain ⟨rfl, hl⟩ := hv.string
    have := hu.int; subst this
    obtain ⟨h0, h1⟩ := hs
    have h2 : 0 ≤ n ∧ n < (s.size : Int) := by rw [size_sb]; exact ⟨h0, h1⟩
    refine ⟨_, by rw [run_index_string w t s k n (tk_string ht), dif_pos h2], ?_⟩
    have e : (s[n.toNat]'(by omega)) = (sb s).getD n.toNat 0 := by
      have hlt : n.toNat < (sb s).length := by omega
      rw [List.getD_eq_getElem?_getD, List.getElem?_eq_getElem hlt]; rfl
    rw [e]; exact .ofInt _ _
  · rename_i n e sz ag cs k i ht
    obtain ⟨hu', hk⟩ := tk_array ht
    have := hu.int; subst this
    split at hs
    · rename_i d hd
      have hs : 0 ≤ i ∧ i < (n : Int) := hs
      cases hv with
      | d hr => cases hr with
        | agg hr =>
          rename_i arr
          obtain ⟨r, hrun, hrd⟩ := part_selD (w := w) hk arr (i.toNat * sz) _ (hr.drop _) hd
          obtain ⟨_, hsz⟩ := ldk_agg hk w
          exact ⟨r, by simp [Instr.index, asIntOf, run_underlying hu', hs, hsz, hrun], .d hrd⟩
    · exact hs.elim
  · exact hs.elim

theorem qidxA_ok (h : Holds g st a w c) {t : TypeId} {x i : V} {v u : Value} (hv : CV c st.L v x) (hu : CV c st.L u i) (hs : (qidxA g.P st t x i).side) :
    ∃ r, (Instr.indexAt t v u).run g.P w = .ok r w ∧ CV c st.L r (qidxA g.P st t x i).val := by
  unfold qidxA at hs ⊢
  split at hs
  · rename_i e sz eb sz' f xs k n ht
    obtain ⟨rfl, h0, h1⟩ := hs
    have := hu.int; subst this
    cases hv with
    | d hr => cases hr with
      | nil => simp at h1; omega
      | sl0 hz => simp at h1; omega
      | sl vals hz hn hc hcm hf hx hm hr =>
        subst hn
        refine ⟨_, run_indexAt_slice ht k n _ _ _ _ h0 h1, ?_⟩
        have hlt : n.toNat < xs.length := by omega
        have hxi := getD_some hlt
        refine .pe ((vals.drop (n.toNat * sz)).take sz) ?_ ?_
        · intro j v hj
          rw [List.getElem?_take] at hj
          split at hj
          · rw [List.getElem?_drop] at hj
            have := hm _ _ hj
            rwa [← Nat.add_assoc] at this
          · cases hj
        · rw [← flat_at hx n.toNat _ hxi]
          exact (hr.drop _).take _
  · rename_i e sz eb r k n ht
    split at hs
    · rename_i sz' fz xs hl
      obtain ⟨rfl, h0, h1⟩ := hs
      have := hu.int; subst this
      generalize hx : V.row r = y at hv
      cases hv <;> cases hx
      have hlt : n.toNat < xs.length := by omega
      cases h.loc r _ hl with
      | nil hv hb => simp at hlt
      | row hz hv hb hh hc hcm _ _ _ _ =>
        rw [hv]
        refine ⟨_, run_indexAt_slice ht k n _ _ _ _ h0 h1, ?_⟩
        rw [Nat.zero_add]
        exact .re (off := 0) hl hlt hb
    · exact hs.elim
  · rename_i e sz eb b o n cp k i ht
    obtain ⟨h0, h1⟩ := hs
    have := hu.int; subst this
    have := hv.v; subst this
    exact ⟨_, run_indexAt_slice ht k i _ _ _ _ h0 h1, .d (.v rfl rfl)⟩
  · rename_i n e sz ag b o k i ht
    obtain ⟨h0, h1⟩ := hs
    have := hu.int; subst this
    have := hv.v; subst this
    exact ⟨_, run_indexAt_array ht k i _ _ h0 h1, .d (.v rfl rfl)⟩
  · rename_i n e sz ag r o k i ht
    obtain ⟨h0, h1⟩ := hs
    have := hu.int; subst this
    generalize hx : V.lp r o = y at hv
    cases hv <;> cases hx
    rename_i b hl hb
    exact ⟨_, run_indexAt_array ht k i _ _ h0 h1, .lp hl hb⟩
  · rename_i n e sz ag cs k i ht
    obtain ⟨h0, h1⟩ := hs
    have := hu.int; subst this
    generalize hx : V.pe cs = y at hv
    cases hv <;> cases hx
    rename_i b o vals hm hr
    refine ⟨_, run_indexAt_array ht k i _ _ h0 h1, .pe (vals.drop (i.toNat * sz)) ?_ (hr.drop _)⟩
    intro j v hj
    rw [List.getElem?_drop] at hj
    have := hm _ _ hj
    rwa [← Nat.add_assoc] at this
  · exact hs.elim

theorem qfa_ok {P : Program} {L : List (Nat × LO)} {t : TypeId} {x : V} {f : Nat} {v : Value} (hv : CV c L v x) (hs : (qfa P t x f).side) :
    ∃ r, (Instr.fieldAt t v f).run P w = .ok r w ∧ CV c L r (qfa P t x f).val := by
  unfold qfa at hs ⊢
  split at hs
  · rename_i o n ag r p hf
    generalize hx : V.lp r p = y at hv
    cases hv <;> cases hx
    rename_i b hl hb
    exact ⟨_, run_fieldAt_at hf hs _ _, .lp hl hb⟩
  · rename_i o n ag cs hf
    generalize hx : V.pe cs = y at hv
    cases hv <;> cases hx
    rename_i b p vals hm hr
    refine ⟨_, run_fieldAt_at hf hs _ _, .pe (vals.drop o) ?_ (hr.drop _)⟩
    intro j v hj
    rw [List.getElem?_drop] at hj
    have := hm _ _ hj
    rwa [← Nat.add_assoc] at this
  · rename_i o n ag r i p hf
    generalize hx : V.re r i p = y at hv
    cases hv <;> cases hx
    rename_i sz fz xs b hl hb hi
    refine ⟨_, run_fieldAt_at hf hs _ _, ?_⟩
    rw [Nat.add_assoc]
    exact .re hl hi hb
  · rename_i o n ag b p hf
    generalize hx : V.d (.v (.pointer (some ⟨b, p, none⟩))) = y at hv
    cases hv <;> cases hx
    rename_i hr
    cases hr
    exact ⟨_, run_fieldAt_at hf hs _ _, .d (.v rfl rfl)⟩
  · exact hs.elim

theorem qf_ok {P : Program} {L : List (Nat × LO)} {t : TypeId} {x : V} {f : Nat} {v : Value} (hv : CV c L v x) (hs : (qf P t x f).side) :
    ∃ r, (Instr.field t v f).run P w = .ok r w ∧ CV c L r (qf P t x f).val := by
  unfold qf at hs ⊢
  split at hs
  · rename_i o n ag cs hf
    split at hs
    · rename_i d hd
      obtain ⟨fa, fl, hu, hfl, rfl, hk⟩ := fieldAt_info hf hs
      cases hv with
      | d hr => cases hr with
        | agg hr =>
          rename_i arr
          obtain ⟨r, hrun, hrd⟩ := part_selD (w := w) hk arr fl.offset _ (hr.drop _) hd
          exact ⟨r, by simp [Instr.field, run_underlying hu, hfl, asAgg, hrun], .d hrd⟩
    · exact hs.elim
  · rename_i o n ag cs hf
    split at hs
    · rename_i d hd
      obtain ⟨fa, fl, hu, hfl, rfl, hk⟩ := fieldAt_info hf hs
      generalize hx : V.agg cs = y at hv
      cases hv <;> cases hx
      rename_i arr hr
      obtain ⟨r, hrun, hrd⟩ := part_selV (w := w) hk arr fl.offset _ (hr.drop _) hd
      exact ⟨r, by simp [Instr.field, run_underlying hu, hfl, asAgg, hrun], hrd⟩
    · exact hs.elim
  · exact hs.elim

theorem qld_ok (h : Holds g st a w c) {t : TypeId} {x : V} {v : Value} (hv : CV c st.L v x) (hs : (qld g.P st t x).side) :
    ∃ r, (Instr.loadAt t v).run g.P w = .ok r w ∧ CV c st.L r (qld g.P st t x).val := by
  unfold qld at hs ⊢
  split at hs
  · rename_i ag n cs hk
    split at hs
    · rename_i d hd
      generalize hx : V.pe cs = y at hv
      cases hv <;> cases hx
      rename_i b o vals hm hr
      obtain ⟨r, hrun, hrd⟩ := selD_ok (w := w) hk b o vals cs hr (fun i v hv => h.agr _ _ _ (hm i v hv)) hd
      exact ⟨r, by simp [Instr.loadAt, Instr.sureAddr, hrun], .d hrd⟩
    · exact hs.elim
  · rename_i ag n r o hk
    split at hs
    · rename_i cs hl
      split at hs
      · rename_i d hd
        generalize hx : V.lp r o = y at hv
        cases hv <;> cases hx
        rename_i b _ hb
        cases h.loc r _ hl with
        | box hb' hh hm hcv =>
          rename_i b' arr ty
          have e : b' = b := by rw [hb] at hb'; exact (Option.some.inj hb').symm
          subst e
          obtain ⟨r, hrun, hrd⟩ := selV_ok (w := w) hk b' o _ _ (hcv.drop o) (fun i v hv => by
            rw [List.getElem?_drop] at hv
            rw [cell_of_row w b' (o + i) arr ty _ hh]; simpa using hv) hd
          exact ⟨r, by simp [Instr.loadAt, Instr.sureAddr, hrun], hrd⟩
      · exact hs.elim
    · exact hs.elim
  · rename_i ag n r i o hk
    split at hs
    · rename_i sz fz xs hl
      split at hs
      · rename_i d hd
        generalize hx : V.re r i o = y at hv
        cases hv <;> cases hx
        rename_i sz' fz' xs' b hl' hb hi
        rw [hl] at hl'
        cases hl'
        cases h.loc r _ hl with
        | nil hv hb' => simp at hi
        | row hz hv hb' hh hc hcm hsz hxs hr hm =>
          rename_i b' cap cur ty
          have e : b' = b := by rw [hb] at hb'; exact (Option.some.inj hb').symm
          subst e
          have hxi := getD_some hi
          have hrr : ReadsL c.m ((((cur.toList.take (xs.length * sz)).drop (i * sz)).take sz).drop o) ((xs.getD i default).cells.drop o) := by
            rw [← flat_at hxs i _ hxi]
            exact ((hr.drop _).take _).drop o
          obtain ⟨r, hrun, hrd⟩ := selD_ok (w := w) hk b' (i * sz + o) _ _ hrr (fun j v hv => by
            rw [List.getElem?_drop, List.getElem?_take] at hv
            split at hv
            · rw [List.getElem?_drop, List.getElem?_take] at hv
              split at hv
              · rw [cell_of_row w b' _ cur ty _ hh]
                rw [Nat.add_assoc]
                simpa using hv
              · cases hv
            · cases hv) hd
          exact ⟨r, by simp [Instr.loadAt, Instr.sureAddr, hrun], .d hrd⟩
      · exact hs.elim
    · exact hs.elim
  · rename_i ag n b o hk
    split at hs
    · rename_i cs hH
      split at hs
      · rename_i d hd
        generalize hx : V.d (.v (.pointer (some ⟨b, o, none⟩))) = y at hv
        cases hv <;> cases hx
        rename_i hr
        cases hr
        cases h.heap.at_ b _ hH with
        | cells hh hcv =>
          rename_i arr ty
          obtain ⟨r, hrun, hrd⟩ := selD_ok (w := w) hk b o _ _ (hcv.drop o) (fun i v hv => by
            rw [List.getElem?_drop] at hv
            rw [cell_of_row w b (o + i) arr ty _ hh]; simpa using hv) hd
          exact ⟨r, by simp [Instr.loadAt, Instr.sureAddr, hrun], .d hrd⟩
      · exact hs.elim
    · exact hs.elim
  · exact hs.elim

theorem qext_ok {P : Program} {L : List (Nat × LO)} {x : V} {i : Nat} {v : Value} (hv : CV c L v x) (hs : (qext x i).side) :
    ∃ r, (Instr.extract v i).run P w = .ok r w ∧ CV c L r (qext x i).val := by
  unfold qext at hs ⊢
  split at hs
  · rename_i vs
    split at hs
    · rename_i y hy
      generalize hx : V.tup vs = z at hv
      cases hv <;> cases hx
      rename_i arr hr
      obtain ⟨u, hu, hc⟩ := hr.get i y hy
      have : arr[i]? = some u := by simpa using hu
      exact ⟨u, by simp [Instr.extract, this], hc⟩
    · exact hs.elim
  · exact hs.elim

theorem qun_ok {P : Program} {L : List (Nat × LO)} {op : UnOp} {x : V} {v : Value} (hv : CV c L v x) (hs : (qun op x).side) :
    ∃ r, (Op.unary op v).run P w = .ok r w ∧ CV c L r (qun op x).val := by
  unfold qun at hs ⊢
  split at hs
  · have := hv.int; subst this; exact ⟨_, rfl, .ofInt _ _⟩
  · have := hv.bool; subst this; exact ⟨_, rfl, .ofBool _⟩
  · exact hs.elim

theorem bytesD_ok {m : Mem} : ∀ {xs : List D} {ns : List Int} {vals : List Value}, bytesD xs = some ns → ReadsL m vals (xs.flatMap D.cells) → vals = ns.map (Value.int .u8) ∧ ns.length = xs.length
  | [], ns, vals, h, hr => by simp [bytesD] at h; subst h; cases hr; exact ⟨rfl, rfl⟩
  | .v (.int k n) :: r, ns, vals, h, hr => by
    cases k <;> simp [bytesD] at h
    obtain ⟨ns', h1, rfl⟩ := h
    simp only [List.flatMap_cons, D.cells, List.cons_append, List.nil_append] at hr
    cases hr with
    | cons a b t =>
      cases b
      obtain ⟨e1, e2⟩ := bytesD_ok h1 t
      exact ⟨by rw [e1]; rfl, by simp [e2]⟩
  | .sl _ _ _ :: _, _, _, h, _ => by simp [bytesD] at h
  | .agg _ :: _, _, _, h, _ => by simp [bytesD] at h
  | .v (.bool _) :: _, _, _, h, _ => by simp [bytesD] at h
  | .v (.float _ _) :: _, _, _, h, _ => by simp [bytesD] at h
  | .v (.complex _ _ _) :: _, _, _, h, _ => by simp [bytesD] at h
  | .v (.string _) :: _, _, _, h, _ => by simp [bytesD] at h
  | .v (.pointer _) :: _, _, _, h, _ => by simp [bytesD] at h
  | .v (.slice _ _ _) :: _, _, _, h, _ => by simp [bytesD] at h
  | .v (.map _) :: _, _, _, h, _ => by simp [bytesD] at h
  | .v (.chan _) :: _, _, _, h, _ => by simp [bytesD] at h
  | .v (.func _ _ _) :: _, _, _, h, _ => by simp [bytesD] at h
  | .v .nilFunc :: _, _, _, h, _ => by simp [bytesD] at h
  | .v (.iface _ _) :: _, _, _, h, _ => by simp [bytesD] at h
  | .v .nilIface :: _, _, _, h, _ => by simp [bytesD] at h
  | .v (.agg _) :: _, _, _, h, _ => by simp [bytesD] at h
  | .v (.tuple _) :: _, _, _, h, _ => by simp [bytesD] at h

theorem run_convert_bytes_0 {P : Program} (w : World) (src e : TypeId) (hs : P.underlying src = some (.slice e)) (he : P.underlying e = some (.int .u8)) (a : Addr) :
    ∀ dst, P.underlying dst = some .string → (convert src dst (.slice (some a) 0 0)).run P w = .ok (.string ByteArray.empty) w := by
  intro dst hd
  rw [run_convert_bytes_string w src dst e _ 0 0 hs he hd]
  simp [Conv.bytesToString, loadCells, loadCellsFrom]
theorem qconv_ok (h : Holds g st a w c) {s d : TypeId} {x : V} {v : Value} (hv : CV c st.L v x) (hs : (qconv g.P s d x).side) :
    ∃ r, (convert s d v).run g.P w = .ok r w ∧ CV c st.L r (qconv g.P s d x).val := by
  unfold qconv at hs ⊢
  split at hs
  · rename_i k0 k k1 n h1 h2
    have := hv.int; subst this
    exact ⟨_, by simp [convert, run_underlying (tk_int h1), run_underlying (tk_int h2), Conv.intToInt], .ofInt _ _⟩
  · rename_i t h1 h2
    obtain ⟨rfl, hl⟩ := hv.string
    exact ⟨_, by simp [convert, run_underlying (tk_string h1), run_underlying (tk_string h2)], hv⟩
  · rename_i e n b sz f xs h1 h2
    split at hs
    · rename_i ns hns
      obtain ⟨he, rfl⟩ := hs
      obtain ⟨hu, _⟩ := tk_slice h1
      have hd := tk_string h2
      have hue := tk_int he
      cases hv with
      | d hr =>
        cases hr with
        | nil =>
          simp [bytesD] at hns
          subst hns
          exact ⟨_, run_convert_bytes_nil w s e hu hue 0 0 d hd, .d (.v rfl (by simp [strOk]))⟩
        | @sl0 a =>
          simp [bytesD] at hns
          subst hns
          exact ⟨_, run_convert_bytes_0 w s e hu hue a d hd, .d (.v rfl (by simp [strOk]))⟩
        | sl vals hz hn hc hcm hf hx hm hr =>
          obtain ⟨e1, e2⟩ := bytesD_ok hns hr
          refine ⟨_, run_convert_bytes_arg w s e hu hue _ _ _ _ ns (e2.trans hn.symm) ?_ d hd, .d (.v rfl ?_)⟩
          · intro i hi
            apply h.agr
            apply hm
            rw [e1, List.getElem?_map]
            have : i < ns.length := by omega
            simp [List.getElem?_eq_getElem this]
          · have := strOfNums_size ns; simp only [strOk, decide_eq_true_eq]; show (sb (strOfNums ns)).length ≤ maxLen; rw [← size_sb]; omega
    · exact hs.elim
  · exact hs.elim

theorem scalEq_now {P : Program} {m : Mem} {kt : TypeId} {key k' : D} {v u : Value} (hk : scalK (tk P kt) key = true) (hv : Reads m v key) (hu : Reads m u k') {b : Bool} (h : scalEq key k' = some b) :
    ∃ kind, P.underlying kt = some kind ∧ Instr.sameNow kind v u = some b := by
  unfold scalK at hk
  split at hk
  · rename_i k0 k n ht
    cases hv
    refine ⟨_, tk_int ht, ?_⟩
    cases k' with
    | v x =>
      cases hu
      cases u <;> simp [scalEq] at h
      obtain ⟨rfl, h⟩ := h
      simp [Instr.sameNow, ← h, intEq]
    | _ => simp [scalEq] at h
  · rename_i s ht
    cases hv
    refine ⟨_, tk_string ht, ?_⟩
    cases k' with
    | v x =>
      cases hu
      cases u <;> simp [scalEq] at h
      rw [Instr.sameNow, beq_toListBytes, toList_sb, toList_sb, beqD, h]
    | _ => simp [scalEq] at h
  · rename_i s ht
    cases hv
    refine ⟨_, tk_bool ht, ?_⟩
    cases k' with
    | v x =>
      cases hu
      cases u <;> simp [scalEq] at h
      simp [Instr.sameNow, h]
    | _ => simp [scalEq] at h
  · cases hk

theorem keyIn_now {P : Program} {m : Mem} {kt : TypeId} {key : D} {v : Value} (hk : scalK (tk P kt) key = true) (hv : Reads m v key) {kind : TypeDesc} (hkind : P.underlying kt = some kind) : ∀ (ents : List MapEntry) (es : List (D × D)) (i : Nat) {r : Option (Nat × D)},
    ReadsA m (ents.map (·.key)) (es.map (·.1)) → ReadsA m (ents.map (·.val)) (es.map (·.2)) → keyIn key es = some r →
    match r with
    | none => Instr.findNow kind v ents i = some none
    | some (j, y) => ∃ e, ents[j]? = some e ∧ Instr.findNow kind v ents i = some (some (i + j, e.val)) ∧ Reads m e.val y ∧ (∃ k', es[j]? = some (k', y) ∧ Reads m e.key k' ∧ scalEq key k' = some true)
  | [], [], i, r, _, _, h => by simp [keyIn] at h; subst h; rfl
  | [], _ :: _, _, _, h, _, _ => by cases h
  | _ :: _, [], _, _, h, _, _ => by cases h
  | e :: ents, (k', y) :: es, i, r, h1, h2, h => by
    simp only [List.map_cons] at h1 h2
    cases h1 with
    | cons a1 t1 =>
      cases h2 with
      | cons a2 t2 =>
        simp only [keyIn] at h
        split at h
        · rename_i hq
          simp only [Option.some.injEq] at h
          subst h
          obtain ⟨kind', e1, e2⟩ := scalEq_now hk hv a1 hq
          rw [hkind] at e1
          cases e1
          exact ⟨e, rfl, by simp [Instr.findNow, e2], a2, k', rfl, a1, hq⟩
        · rename_i hq
          obtain ⟨kind', e1, e2⟩ := scalEq_now hk hv a1 hq
          rw [hkind] at e1
          cases e1
          cases hr : keyIn key es with
          | none => simp [hr] at h
          | some r' =>
            have ih := keyIn_now hk hv hkind ents es (i + 1) t1 t2 hr
            simp only [hr, Option.map_some, Option.some.injEq] at h
            subst h
            cases r' with
            | none => simpa [Instr.findNow, e2] using ih
            | some p =>
              obtain ⟨j, z⟩ := p
              obtain ⟨e', h1, h2, h3, k2, h4, h5, h6⟩ := ih
              refine ⟨e', by simpa using h1, ?_, h3, k2, by simpa using h4, h5, h6⟩
              simp only [Instr.findNow, e2, h2]
              congr 3
              omega
        · cases h

theorem run_checkKey_scal {P : Program} {m : Mem} {kt : TypeId} {key : D} {v : Value} (hk : scalK (tk P kt) key = true) (hv : Reads m v key) (b : Bool) (w : World) : (Instr.checkKey b 10000 kt v).run P w = .ok () w := by
  show (Instr.checkKey b (9999 + 1) kt v).run P w = .ok () w
  unfold scalK at hk
  split at hk
  · rename_i ht; cases hv; rw [Instr.checkKey]; simp only [Sem.run_bind, run_underlying (tk_int ht), Result.andThen_ok]; rfl
  · rename_i ht; cases hv; rw [Instr.checkKey]; simp only [Sem.run_bind, run_underlying (tk_string ht), Result.andThen_ok]; rfl
  · rename_i ht; cases hv; rw [Instr.checkKey]; simp only [Sem.run_bind, run_underlying (tk_bool ht), Result.andThen_ok]; rfl
  · cases hk

theorem scalK_und {P : Program} {kt : TypeId} {key : D} (hk : scalK (tk P kt) key = true) : ∃ kind, P.underlying kt = some kind := by
  unfold scalK at hk
  split at hk
  · rename_i ht; exact ⟨_, tk_int ht⟩
  · rename_i ht; exact ⟨_, tk_string ht⟩
  · rename_i ht; exact ⟨_, tk_bool ht⟩
  · cases hk

theorem ofCell_ok {m : Mem} {v : Value} (h1 : v.oneCell' = true) (h2 : strOk v = true) : Reads m v (D.ofCell v) := by
  unfold D.ofCell
  split
  · exact .nil
  · exact .v h1 h2
theorem tzv_ok {P : Program} {t : TypeId} {d : D} (w : World) (m : Mem) (h : tzv P t = some d) : ∃ z, (zeroValue t).run P w = .ok z w ∧ Reads m z d := by
  unfold tzv at h
  cases hi : P.info? t with
  | none => simp [hi] at h
  | some i =>
    simp only [hi, Option.bind_some] at h
    cases hz : i.zero with
    | none => simp [hz] at h
    | some z =>
      have hrun : (zeroValue t).run P w = .ok z w := by simp [zeroValue, typeInfo, hi, hz]
      rw [hz] at h
      split at h
      · rename_i cs e
        cases e
        split at h
        · rename_i hall
          cases h
          refine ⟨_, hrun, .agg ?_⟩
          generalize cs.toList = l at hall
          induction l with
          | nil => exact .nil
          | cons v r ih =>
            simp only [List.all_cons, Bool.and_eq_true] at hall
            exact .cons hall.1.1 (ofCell_ok hall.1.1 hall.1.2) (ih (by simpa using hall.2))
        · cases h
      · cases h
      · rename_i x h1 h2 e
        cases e
        split at h
        · rename_i hs
          cases h
          exact ⟨_, hrun, ofCell_ok (by cases z <;> first | rfl | exact (h1 _ rfl).elim | exact (h2 _ rfl).elim) hs⟩
        · cases h
      · cases h

theorem qlk_ok (h : Holds g st a w c) {t : TypeId} {x i : V} {ok : Bool} {v u : Value} (hv : CV c st.L v x) (hu : CV c st.L u i)
    (hs : (qlk g.P st t x i ok).side) : ∃ r, (Instr.lookup t v u ok).run g.P w = .ok r w ∧ CV c st.L r (qlk g.P st t x i ok).val := by
  unfold qlk at hs ⊢
  split at hs
  · rename_i kt et b key ht
    have hm := tk_map ht
    have := hv.v; subst this
    split at hs
    · rename_i es zd hb hzs
      have hku : Reads c.m u key := by cases hu with | d hr => exact hr
      cases h.heap.at_ b _ hb with
      | map hh hk hvv =>
        rename_i entries clock
        split at hs
        · rename_i j y hq
          obtain ⟨kind, hkind⟩ := scalK_und hs
          obtain ⟨e, h1, h2, h3, _⟩ := keyIn_now hs hku hkind entries.toList es 0 hk hvv hq
          cases ok with
          | true => exact ⟨.tuple #[e.val, .bool true], by simp [Instr.lookup, run_underlying hm, getObj, Sem.run, hh, run_checkKey_scal hs hku, Instr.findKey, run_underlying hkind, h2], .tup (.cons (.d h3) (.cons (.ofBool _) .nil))⟩
          | false => exact ⟨e.val, by simp [Instr.lookup, run_underlying hm, getObj, Sem.run, hh, run_checkKey_scal hs hku, Instr.findKey, run_underlying hkind, h2], .d h3⟩
        · rename_i hq
          have hsk := hs
          obtain ⟨kind, hkind⟩ := scalK_und hsk
          have h2 := keyIn_now hsk hku hkind entries.toList es 0 hk hvv hq
          simp only at h2
          obtain ⟨z, hz1, h3⟩ := tzv_ok w c.m hzs
          cases ok with
          | true => exact ⟨.tuple #[z, .bool false], by simp [Instr.lookup, run_underlying hm, getObj, Sem.run, hh, run_checkKey_scal hsk hku, Instr.findKey, run_underlying hkind, h2, hz1], .tup (.cons (.d h3) (.cons (.ofBool _) .nil))⟩
          | false => exact ⟨z, by simp [Instr.lookup, run_underlying hm, getObj, Sem.run, hh, run_checkKey_scal hsk hku, Instr.findKey, run_underlying hkind, h2, hz1], .d h3⟩
        · exact hs.elim
    · exact hs.elim
  · exact hs.elim

end
end Go.Ab
