/- THE ABSTRACT LAYER, PART 5: slicing, picking, building aggregates, new frozen rows. -/
import Derived.Test.YtjnkfcbbgfgmhaaDoorAbQop
set_option linter.unusedSimpArgs false
set_option linter.unusedVariables false
namespace Go.Ab
open Go

/-- Parts laid into cells. -/
def fillV (place : Nat → Option (Nat × Nat)) : List V → List (Nat × V) → Option (List V)
  | cs, [] => some cs
  | cs, (i, x) :: r =>
    match place i, x.cellsOf with
    | some (o, n), some ys => if ys.length = n ∧ o + n ≤ cs.length then fillV place (cs.take o ++ ys ++ cs.drop (o + n)) r else none
    | _, _ => none
def placeOf (P : Program) (t : TypeId) (i : Nat) : Option (Nat × Nat) :=
  match tk P t with
  | .struct fs => match fs[i]? with | some (o, n, _) => if n = 0 then none else some (o, n) | none => none
  | .array _ _ sz _ => some (i * sz, sz)
  | _ => none
def TK.agg : TK → Bool
  | .struct _ => true
  | .array _ _ _ _ => true
  | _ => false
def qbuild (P : Program) (t : TypeId) (parts : List (Nat × V)) : Q :=
  match (tk P t).agg, tz P t with
  | true, some zs => match fillV (placeOf P t) (zs.map V.d) parts with | some cs => .ok (mkA cs) | none => .no
  | _, _ => .no
def fillS : List D → List (Nat × V) → Option (List D)
  | xs, [] => some xs
  | xs, (i, .d x) :: r => fillS (xs.set i x) r
  | _, _ => none
def partsOk (n sz : Nat) : List (Nat × V) → Prop
  | [] => True
  | (i, .d x) :: r => i < n ∧ x.cells.length = sz ∧ partsOk n sz r
  | _ :: _ => False
def qbs (P : Program) (t : TypeId) (n : Nat) (parts : List (Nat × V)) : Q :=
  match tk P t with
  | .slice e sz _ =>
    match tz P e, ldk P e with
    | some zs, some (ag, _) =>
      match fillS (List.replicate n (zeroD ag zs)) parts with
      | some xs => ⟨0 < sz ∧ zs.length = sz ∧ (ag = true ∨ sz = 1) ∧ n * sz ≤ 16777216 ∧ partsOk n sz parts, True, .d (.sl sz true xs)⟩
      | none => .no
    | _, _ => .no
  | _ => .no

section
variable {g : Gx} {st : St} {a : Act} {w : World} {c : Cx}

theorem row_oneCell (h : Holds g st a w c) {i sz fz xs} (hl : lk i st.L = some (.row sz fz xs)) : (c.lv i).oneCell' = true := by
  cases h.loc i _ hl with
  | nil hv hb => rw [hv]; rfl
  | row hz hv hb hh hc hcm _ _ _ _ => rw [hv]; rfl

theorem Reads.oneCell {m : Mem} {v : Value} {d : D} (h : Reads m v d) (hd : ∀ cs, d ≠ .agg cs) : v.oneCell' = true := by
  cases h with
  | v h _ => exact h
  | nil => rfl
  | sl0 => rfl
  | sl => rfl
  | agg => exact absurd rfl (hd _)

/-- A value's cells. -/
theorem cellsOf_ok (h : Holds g st a w c) {v : Value} {x : V} {ys : List V} (hv : CV c st.L v x) (hy : x.cellsOf = some ys) : CVL c st.L v.cells.toList ys := by
  have one : ∀ {x}, (x.cellsOf = some [x]) → v.oneCell' = true → CV c st.L v x → x.cellsOf = some ys → CVL c st.L v.cells.toList ys := by
    intro x hx h1 hv hy
    rw [hx] at hy
    cases hy
    have e : v.cells = #[v] := by cases v <;> first | rfl | (simp [Value.oneCell'] at h1)
    rw [e]
    exact .cons h1 hv .nil
  cases x with
  | d y =>
    cases y with
    | agg ds =>
      simp only [V.cellsOf] at hy
      cases hy
      cases hv with
      | d hr => cases hr with
        | agg hr => exact CVL.ofReads hr
    | v y =>
      refine one rfl ?_ hv hy
      cases hv with
      | d hr => exact hr.oneCell (by intro cs; simp)
    | sl s f xs =>
      refine one rfl ?_ hv hy
      cases hv with
      | d hr => exact hr.oneCell (by intro cs; simp)
  | agg cs =>
    simp only [V.cellsOf] at hy
    cases hy
    cases hv with
    | agg hr => exact hr
  | tup _ => simp [V.cellsOf] at hy
  | g _ _ => simp [V.cellsOf] at hy
  | any => simp [V.cellsOf] at hy
  | lp i o => exact one rfl (by cases hv; rfl) hv hy
  | pe cs => exact one rfl (by cases hv; rfl) hv hy
  | re i k o => exact one rfl (by cases hv; rfl) hv hy
  | row i => exact one rfl (by cases hv with | row hl => exact row_oneCell h hl) hv hy

theorem fill_ok (h : Holds g st a w c) (place place' : Nat → Option (Nat × Nat)) (hpp : ∀ i p, place i = some p → place' i = some p) : ∀ (parts : List (Nat × Value)) (ps : List (Nat × V)) (cells : Array Value) (cs : List V),
    CVL c st.L cells.toList cs → parts.map (·.1) = ps.map (·.1) → (∀ (j : Nat) (p : Nat × Value) (q : Nat × V), parts[j]? = some p → ps[j]? = some q → CV c st.L p.2 q.2) →
    ∀ {out}, fillV place cs ps = some out → ∃ arr, Instr.fill place' cells parts = some arr ∧ CVL c st.L arr.toList out
  | [], [], cells, cs, hc, _, _, out, ho => by simp [fillV] at ho; subst ho; exact ⟨cells, rfl, hc⟩
  | [], _ :: _, _, _, _, hk, _, _, _ => by simp at hk
  | _ :: _, [], _, _, _, hk, _, _, _ => by simp at hk
  | (i, v) :: r, (j, x) :: s, cells, cs, hc, hk, hp, out, ho => by
    simp only [List.map_cons, List.cons.injEq] at hk
    obtain ⟨rfl, hk⟩ := hk
    have hv : CV c st.L v x := hp 0 (i, v) (i, x) rfl rfl
    simp only [fillV] at ho
    split at ho
    · rename_i o n ys hpl hys
      split at ho
      · rename_i hn
        obtain ⟨hn1, hn2⟩ := hn
        have hcy := cellsOf_ok h hv hys
        have hlen := hcy.length
        have hsz : v.cells.size = n := by rw [← hn1, ← hlen]; simp
        have hcl := hc.length
        have e2 : (v.cells.zipIdx.foldl (fun cs (c, j) => cs.setIfInBounds (o + j) c) cells).toList = cells.toList.take o ++ v.cells.toList ++ cells.toList.drop (o + n) := by
          have key : ∀ (l : List Value) (k : Nat) (arr : Array Value), o + k + l.length ≤ arr.size →
              ((l.zipIdx k).foldl (fun (cs : Array Value) (x : Value × Nat) => cs.setIfInBounds (o + x.2) x.1) arr).toList = arr.toList.take (o + k) ++ l ++ arr.toList.drop (o + k + l.length) := by
            intro l
            induction l with
            | nil => intro k arr _; simp
            | cons u r ih =>
              intro k arr hle
              simp only [List.length_cons] at hle
              rw [List.zipIdx_cons, List.foldl_cons, ih (k + 1) _ (by simp; omega)]
              have hok : o + k < arr.toList.length := by simp; omega
              simp only [Array.toList_setIfInBounds, List.length_cons]
              have e1 : o + (k + 1) = (o + k) + 1 := by omega
              have e2 : o + (k + 1) + r.length = o + k + (r.length + 1) := by omega
              rw [e1] at e2
              rw [e1, e2]
              rw [List.take_succ_eq_append_getElem (by simpa using hok)]
              simp only [List.getElem_set_self, List.append_assoc, List.singleton_append, List.cons_append, List.nil_append]
              rw [List.take_set_of_le (by omega), List.drop_set_of_lt (by omega)]
          have := key v.cells.toList 0 cells (by simp only [Array.length_toList, hsz] at *; omega)
          simp only [Nat.add_zero, Array.length_toList, hsz] at this
          rw [← this]
          rw [← Array.foldl_toList]
          simp [Array.toList_zipIdx]
        obtain ⟨arr, hf, hcv⟩ := fill_ok h place place' hpp r s (v.cells.zipIdx.foldl (fun cs (c, j) => cs.setIfInBounds (o + j) c) cells) _ (by
          rw [e2]
          exact ((hc.take o).app hcy).app (hc.drop (o + n))) hk (fun k p q hp1 hq1 => hp (k + 1) p q (by simpa using hp1) (by simpa using hq1)) ho
        refine ⟨arr, ?_, hcv⟩
        have hle : ¬ (o + v.cells.size > cells.size) := by rw [hsz]; simp only [Array.length_toList] at hcl; omega
        simp only [Instr.fill, hpp _ _ hpl]
        rw [if_neg (by simp only [ne_eq, Bool.or_eq_true, decide_eq_true_eq, not_or]; exact ⟨by simp [hsz], hle⟩)]
        exact hf
      · cases ho
    · cases ho

theorem run_places {P : Program} {w : World} (fa : Array Field) (hall : (fa.toList.all fun f => (ldk P f.type).isSome) = true) :
    (fa.mapM fun f => (do pure (f.offset, ← sizeOf f.type) : Sem (Nat × Nat))).run P w = .ok (fa.map fun f => (f.offset, P.cellsOf f.type)) w := by
  have key : ∀ (l : List Field), (l.all fun f => (ldk P f.type).isSome) = true → (l.mapM fun f => (do pure (f.offset, ← sizeOf f.type) : Sem (Nat × Nat))).run P w = .ok (l.map fun f => (f.offset, P.cellsOf f.type)) w := by
    intro l
    induction l with
    | nil => intro _; rfl
    | cons f r ih =>
      intro hl
      simp only [List.all_cons, Bool.and_eq_true] at hl
      obtain ⟨b, n, hk⟩ : ∃ b n, ldk P f.type = some (b, n) := by
        cases hk : ldk P f.type with
        | none => simp [hk] at hl
        | some x => exact ⟨x.1, x.2, rfl⟩
      obtain ⟨_, hs⟩ := ldk_agg hk w
      obtain ⟨inf, hi, hn⟩ := ldk_info hk
      have hc : P.cellsOf f.type = n := by simp [Program.cellsOf, hi, hn]
      simp only [List.mapM_cons, Sem.run_bind, hs, Result.andThen_ok, Sem.run_pure, ih hl.2, List.map_cons, hc]
  have := key fa.toList hall
  rw [Array.mapM_eq_mapM_toList]
  simp only [Sem.run_map, this, Result.andThen_ok]
  congr 1
  apply Array.ext'
  simp

theorem tz_ok {P : Program} {t : TypeId} {zs} (w : World) (c : Cx) (L) (h : tz P t = some zs) : ∃ z, (zeroValue t).run P w = .ok z w ∧ CVL c L z.cells.toList (zs.map V.d) ∧ ReadsL c.m z.cells.toList zs := by
  unfold tz at h
  split at h
  · rename_i z hz
    split at h
    · rename_i hall
      simp only [Option.some.injEq] at h
      obtain ⟨i, hi, hz⟩ : ∃ i, P.info? t = some i ∧ i.zero = some z := by
        cases hi : P.info? t with
        | none => simp [hi] at hz
        | some i => exact ⟨i, rfl, by simpa [hi] using hz⟩
      have hr : ReadsL c.m z.cells.toList zs := by
        subst h
        generalize z.cells.toList = l at hall
        induction l with
        | nil => exact .nil
        | cons v r ih =>
          simp only [List.all_cons, Bool.and_eq_true] at hall
          exact .cons hall.1.1 (ofCell_ok hall.1.1 hall.1.2) (ih (by simpa using hall.2))
      exact ⟨z, by simp [zeroValue, typeInfo, hi, hz], CVL.ofReads hr, hr⟩
    · cases h
  · cases h

theorem qbuild_ok (h : Holds g st a w c) {t : TypeId} (parts : List (Nat × Value)) (ps : List (Nat × V)) (hk : parts.map (·.1) = ps.map (·.1))
    (hp : ∀ (j : Nat) (p : Nat × Value) (q : Nat × V), parts[j]? = some p → ps[j]? = some q → CV c st.L p.2 q.2) (hs : (qbuild g.P t ps).side) :
    ∃ r, (Instr.build t parts.toArray).run g.P w = .ok r w ∧ CV c st.L r (qbuild g.P t ps).val := by
  unfold qbuild at hs ⊢
  split at hs
  · rename_i zs hag hz
    obtain ⟨z, hrun, hcv, _⟩ := tz_ok w c st.L hz
    split at hs
    · rename_i cs hcs
      cases ht : tk g.P t with
      | struct fs =>
        obtain ⟨fa, hu, hall, rfl⟩ := tk_struct' ht
        obtain ⟨arr, hf, hcv'⟩ := fill_ok h (placeOf g.P t) (fun i => (fa.map fun f => (f.offset, g.P.cellsOf f.type))[i]?) (by
          intro i p hp
          unfold placeOf at hp
          rw [ht] at hp
          simp only [List.getElem?_map] at hp
          cases hfi : fa[i]? with
          | none => simp [hfi] at hp
          | some fl =>
            cases hkk : ldk g.P fl.type with
            | none => simp [hfi, hkk] at hp
            | some bn =>
              obtain ⟨b, n⟩ := bn
              obtain ⟨inf, hi, hn⟩ := ldk_info hkk
              simp [hfi, hkk] at hp
              simp [hfi, Program.cellsOf, hi, hn, hp.2]) parts ps z.cells _ hcv hk hp hcs
        have hpl := run_places (w := w) fa hall
        simp only [bind_pure_comp] at hpl
        simp only [Array.getElem?_map] at hf
        exact ⟨_, by simp [Instr.build, hrun, run_underlying hu, hpl, hf], mkA_ok hcv'⟩
      | array n e sz ag =>
        obtain ⟨hu, hkk⟩ := tk_array ht
        obtain ⟨_, hsz⟩ := ldk_agg hkk w
        obtain ⟨arr, hf, hcv'⟩ := fill_ok h (placeOf g.P t) (fun i => some (i * sz, sz)) (by
          intro i p hp
          unfold placeOf at hp
          rw [ht] at hp
          exact hp) parts ps z.cells _ hcv hk hp hcs
        exact ⟨_, by simp [Instr.build, hrun, run_underlying hu, hsz, hf], mkA_ok hcv'⟩
      | _ => rw [ht] at hag; simp [TK.agg] at hag
    · exact hs.elim
  · exact hs.elim

theorem qpick_ok {L : List (Nat × LO)} {rc ra rb : V} {vc va vb : Value} (hc : CV c L vc rc) (ha : CV c L va ra) (hb : CV c L vb rb)
    (hs : (qpick rc ra rb).side) : ∃ t, asBool vc = pure t ∧ CV c L (if t = true then va else vb) (qpick rc ra rb).val := by
  unfold qpick at hs ⊢
  split at hs
  · rename_i t x y
    have := hc.bool; subst this
    have := ha.bool; subst this
    have := hb.bool; subst this
    refine ⟨t, rfl, ?_⟩
    cases t <;> exact .ofBool _
  · rename_i t b1 x y
    have := hc.bool; subst this
    have := hb.bool; subst this
    refine ⟨t, rfl, ?_⟩
    cases t
    · exact .ofBool _
    · cases ha with
      | g ha _ => have := (ha (hs rfl)).bool; subst this; exact .ofBool _
  · rename_i t x b2 y
    have := hc.bool; subst this
    have := ha.bool; subst this
    refine ⟨t, rfl, ?_⟩
    cases t
    · cases hb with
      | g hb _ => have := (hb (hs rfl)).bool; subst this; exact .ofBool _
    · exact .ofBool _
  · rename_i t b1 y
    have := hc.bool; subst this
    have := hb.bool; subst this
    have hs : t = false := hs
    subst hs
    exact ⟨false, rfl, .ofBool _⟩
  · rename_i t x b2
    have := hc.bool; subst this
    have := ha.bool; subst this
    have hs : t = true := hs
    subst hs
    exact ⟨true, rfl, .ofBool _⟩
  · exact hs.elim

theorem str_take {P : Program} {c : Cx} {L} (s : ByteArray) (hl : (sb s).length ≤ maxLen) (l h : Nat) : CV c L (.string (s.extract l h)) (.d (.v (.string ⟨(((sb s).drop l).take (h - l)).toArray⟩))) := by
  rw [Lib.extract_eq]
  refine .d (.v rfl (decide_eq_true ?_))
  show (((sb s).drop l).take (h - l)).length ≤ maxLen
  rw [List.length_take, List.length_drop]; omega

theorem optI_some {c : Cx} {L} {x : Option V} {v : Option Value} {n : Option Int} (hx : optI x = some n) (h1 : x.isSome = v.isSome) (hc : ∀ y u, x = some y → v = some u → CV c L u y) :
    match n with
    | none => v = none
    | some i => ∃ k, v = some (.int k i) := by
  cases x with
  | none =>
    simp [optI] at hx; subst hx
    cases v with
    | none => rfl
    | some _ => simp at h1
  | some y =>
    cases v with
    | none => simp at h1
    | some u =>
      have hy := hc y u rfl rfl
      unfold optI at hx
      split at hx
      · cases hx; rename_i e; cases e
      · rename_i k i e; cases hx; cases e; have := hy.int; subst this; exact ⟨k, rfl⟩
      · cases hx

theorem run_sliceBound' {P : Program} {w : World} (k : IntKind) (i : Int) (y : Nat) (code : BoundsCode) (h0 : 0 ≤ i) (h1 : i ≤ y) : (Instr.sliceBound (.int k i) y code).run P w = .ok i.toNat w := by
  have hc : 0 ≤ i ∧ i ≤ (y : Int) := ⟨h0, h1⟩
  simp [Instr.sliceBound, asIntOf, hc]

/-- A slice of a tree. -/
theorem cut_ok {m : Mem} {v : Value} {sz : Nat} {f : Bool} {xs : List D} (hr : Reads m v (.sl sz f xs)) : ∃ a len cap, v = .slice a len cap ∧ len = xs.length ∧ len ≤ cap ∧ (f = true → cap = len) ∧
    ∀ (l h mx : Nat) (f' : Bool), l ≤ h → h ≤ len → h ≤ mx → mx ≤ cap → (f' = true → mx = h) → Reads m (.slice (if mx = l then a else a.map (·.add (l * sz))) (h - l) (mx - l)) (.sl sz f' ((xs.drop l).take (h - l))) := by
  cases hr with
  | nil =>
    refine ⟨none, 0, 0, rfl, rfl, Nat.le_refl _, fun _ => rfl, ?_⟩
    intro l h mx f' h1 h2 h3 h4 h5
    have e1 : h = 0 := by omega
    have e2 : mx = 0 := by omega
    have e3 : l = 0 := by omega
    subst e1 e2 e3
    exact .nil
  | @sl0 a _ _ hz =>
    refine ⟨some a, 0, 0, rfl, rfl, Nat.le_refl _, fun _ => rfl, ?_⟩
    intro l h mx f' h1 h2 h3 h4 h5
    have e1 : h = 0 := by omega
    have e2 : mx = 0 := by omega
    have e3 : l = 0 := by omega
    subst e1 e2 e3
    exact .sl0 hz
  | @sl b off n cp _ _ _ vals hz hn hc hcm hf hx hm hr =>
    subst hn
    refine ⟨some ⟨b, off, none⟩, _, _, rfl, rfl, hc, hf, ?_⟩
    intro l h mx f' h1 h2 h3 h4 h5
    have hlen : ((xs.drop l).take (h - l)).length = h - l := by rw [List.length_take, List.length_drop]; omega
    by_cases e : mx = l
    · have e2 : h = l := by omega
      subst e e2
      rw [if_pos rfl]
      have : (xs.drop h).take (h - h) = [] := by simp
      rw [this]
      exact .sl [] hz (by simp) (by omega) (by omega) (by intro; omega) (by simp) (by simp) .nil
    · rw [if_neg e]
      simp only [Option.map_some, add_off]
      refine .sl ((vals.drop (l * sz)).take ((h - l) * sz)) hz hlen.symm (by omega) (by omega) (by intro e; have := h5 e; omega) (fun x hx' => hx x (List.mem_of_mem_drop (List.mem_of_mem_take hx'))) ?_ ?_
      · intro i v hv
        rw [List.getElem?_take] at hv
        split at hv
        · rw [List.getElem?_drop] at hv
          have := hm _ _ hv
          rwa [← Nat.add_assoc] at this
        · cases hv
      · rw [← flat_take (fun x hx' => hx x (List.mem_of_mem_drop hx')), ← flat_drop hx]
        exact (hr.drop _).take _

theorem qsl_ok {P : Program} {L : List (Nat × LO)} {t : TypeId} {x : V} {lo hi mx : Option V} {v : Value} {vl vh vm : Option Value} (hv : CV c L v x)
    (el : lo.isSome = vl.isSome) (hl : ∀ y u, lo = some y → vl = some u → CV c L u y) (eh : hi.isSome = vh.isSome) (hh : ∀ y u, hi = some y → vh = some u → CV c L u y)
    (em : mx.isSome = vm.isSome) (hm : ∀ y u, mx = some y → vm = some u → CV c L u y) (hs : (qsl P t x lo hi mx).side) :
    ∃ r, (Instr.sliceAt t v vl vh vm).run P w = .ok r w ∧ CV c L r (qsl P t x lo hi mx).val := by
  unfold qsl at hs ⊢
  split at hs
  -- texts
  · rename_i s h1 h2 h3 h4
    obtain ⟨rfl, hls⟩ := hv.string
    have e1 := optI_some h2 el hl; have e2 := optI_some h3 eh hh; have e3 := optI_some h4 em hm
    simp only at e1 e2 e3; subst e1 e2 e3
    have hu := tk_string h1
    have e : s.extract 0 s.size = s := by rw [Lib.extract_eq, List.drop_zero, Nat.sub_zero, size_sb]; exact congrArg _ (congrArg _ (List.take_length ..))
    exact ⟨.string s, by simp [Instr.sliceAt, Instr.slice, run_underlying hu, Instr.sliceBounds, e], hv⟩
  · rename_i s l h1 h2 h3 h4
    obtain ⟨rfl, hls⟩ := hv.string
    have e1 := optI_some h2 el hl; have e2 := optI_some h3 eh hh; have e3 := optI_some h4 em hm
    simp only at e1 e2 e3; obtain ⟨k, e1⟩ := e1; subst e1 e2 e3
    have hu := tk_string h1
    obtain ⟨a1, a2⟩ := hs
    have hb := fun w => run_sliceBound' (P := P) (w := w) k l s.size .sliceB a1 (by rw [size_sb]; exact a2)
    refine ⟨_, by simp [Instr.sliceAt, Instr.slice, run_underlying hu, Instr.sliceBounds, hb]; rfl, ?_⟩
    have := str_take (P := P) (c := c) (L := L) s hls l.toNat s.size
    have e : ((sb s).drop l.toNat).take (s.size - l.toNat) = (sb s).drop l.toNat := by
      apply List.take_of_length_le; rw [List.length_drop, size_sb]; omega
    rw [e] at this
    exact this
  · rename_i s h h1 h2 h3 h4
    obtain ⟨rfl, hls⟩ := hv.string
    have e1 := optI_some h2 el hl; have e2 := optI_some h3 eh hh; have e3 := optI_some h4 em hm
    simp only at e1 e2 e3; obtain ⟨k, e2⟩ := e2; subst e1 e2 e3
    have hu := tk_string h1
    obtain ⟨a1, a2⟩ := hs
    have hb := fun w => run_sliceBound' (P := P) (w := w) k h s.size .sliceAlen a1 (by rw [size_sb]; exact a2)
    refine ⟨_, by simp [Instr.sliceAt, Instr.slice, run_underlying hu, Instr.sliceBounds, hb]; rfl, ?_⟩
    have := str_take (P := P) (c := c) (L := L) s hls 0 h.toNat
    rw [List.drop_zero, Nat.sub_zero] at this
    exact this
  · rename_i s l h h1 h2 h3 h4
    obtain ⟨rfl, hls⟩ := hv.string
    have e1 := optI_some h2 el hl; have e2 := optI_some h3 eh hh; have e3 := optI_some h4 em hm
    simp only at e1 e2 e3; obtain ⟨k, e1⟩ := e1; obtain ⟨k', e2⟩ := e2; subst e1 e2 e3
    have hu := tk_string h1
    obtain ⟨a1, a2, a3⟩ := hs
    have hb := fun w => run_sliceBound' (P := P) (w := w) k' h s.size .sliceAlen (by omega) (by rw [size_sb]; exact a3)
    have hb2 := fun w => run_sliceBound' (P := P) (w := w) k l h.toNat .sliceB a1 (by omega)
    refine ⟨_, by simp [Instr.sliceAt, Instr.slice, run_underlying hu, Instr.sliceBounds, hb, hb2]; rfl, ?_⟩
    exact str_take (P := P) s hls l.toNat h.toNat
  -- slices
  · rename_i e n b sz f xs h1 h2 h3 h4
    have e1 := optI_some h2 el hl; have e2 := optI_some h3 eh hh; have e3 := optI_some h4 em hm
    simp only at e1 e2 e3; subst e1 e2 e3
    have hs : n = sz := hs
    subst hs
    obtain ⟨hu, inf, hi, hn, _⟩ := tk_slice h1
    cases hv with
    | d hr =>
      obtain ⟨a, len, cap, rfl, rfl, hc, hf, hk⟩ := cut_ok hr
      refine ⟨_, by simp [Instr.sliceAt, Instr.slice, run_underlying hu, Instr.sliceBounds, sizeOf, typeInfo, hi, hn]; rfl, .d ?_⟩
      have := hk 0 xs.length cap f (by omega) (by omega) hc (by omega) hf
      simpa using this
  · rename_i e n b sz f xs l h1 h2 h3 h4
    have e1 := optI_some h2 el hl; have e2 := optI_some h3 eh hh; have e3 := optI_some h4 em hm
    simp only at e1 e2 e3; obtain ⟨k, e1⟩ := e1; subst e1 e2 e3
    obtain ⟨hs, a1, a2⟩ := hs
    subst hs
    obtain ⟨hu, inf, hi, hn, _⟩ := tk_slice h1
    cases hv with
    | d hr =>
      obtain ⟨a, len, cap, rfl, rfl, hc, hf, hk⟩ := cut_ok hr
      have hb := fun w => run_sliceBound' (P := P) (w := w) k l xs.length .sliceB a1 a2
      refine ⟨_, by simp [Instr.sliceAt, Instr.slice, run_underlying hu, Instr.sliceBounds, sizeOf, typeInfo, hi, hn, hb]; rfl, .d ?_⟩
      have := hk l.toNat xs.length cap f (by omega) (by omega) hc (by omega) hf
      have e : (xs.drop l.toNat).take (xs.length - l.toNat) = xs.drop l.toNat := by apply List.take_of_length_le; rw [List.length_drop]; omega
      rw [e] at this
      exact this
  · rename_i e n b sz f xs h h1 h2 h3 h4
    have e1 := optI_some h2 el hl; have e2 := optI_some h3 eh hh; have e3 := optI_some h4 em hm
    simp only at e1 e2 e3; obtain ⟨k, e2⟩ := e2; subst e1 e2 e3
    obtain ⟨hs, a1, a2⟩ := hs
    subst hs
    obtain ⟨hu, inf, hi, hn, _⟩ := tk_slice h1
    cases hv with
    | d hr =>
      obtain ⟨a, len, cap, rfl, rfl, hc, hf, hk⟩ := cut_ok hr
      have hb := fun w => run_sliceBound' (P := P) (w := w) k h cap .sliceAcap a1 (by omega)
      refine ⟨_, by simp [Instr.sliceAt, Instr.slice, run_underlying hu, Instr.sliceBounds, sizeOf, typeInfo, hi, hn, hb]; rfl, .d ?_⟩
      have := hk 0 h.toNat cap false (by omega) (by omega) (by omega) (by omega) (by simp)
      simpa using this
  · rename_i e n b sz f xs l h h1 h2 h3 h4
    have e1 := optI_some h2 el hl; have e2 := optI_some h3 eh hh; have e3 := optI_some h4 em hm
    simp only at e1 e2 e3; obtain ⟨k', e1⟩ := e1; obtain ⟨k, e2⟩ := e2; subst e1 e2 e3
    obtain ⟨hs, a0, a1, a2⟩ := hs
    subst hs
    obtain ⟨hu, inf, hi, hn, _⟩ := tk_slice h1
    cases hv with
    | d hr =>
      obtain ⟨a, len, cap, rfl, rfl, hc, hf, hk⟩ := cut_ok hr
      have hb := fun w => run_sliceBound' (P := P) (w := w) k h cap .sliceAcap (by omega) (by omega)
      have hb2 := fun w => run_sliceBound' (P := P) (w := w) k' l h.toNat .sliceB a0 (by omega)
      refine ⟨_, by simp [Instr.sliceAt, Instr.slice, run_underlying hu, Instr.sliceBounds, sizeOf, typeInfo, hi, hn, hb, hb2]; rfl, .d ?_⟩
      exact hk l.toNat h.toNat cap false (by omega) (by omega) (by omega) (by omega) (by simp)
  · rename_i e n b sz f xs h m h1 h2 h3 h4
    have e1 := optI_some h2 el hl; have e2 := optI_some h3 eh hh; have e3 := optI_some h4 em hm
    simp only at e1 e2 e3; obtain ⟨k, e2⟩ := e2; obtain ⟨k', e3⟩ := e3; subst e1 e2 e3
    obtain ⟨hs, a0, a1, a2⟩ := hs
    subst hs a1
    obtain ⟨hu, inf, hi, hn, _⟩ := tk_slice h1
    cases hv with
    | d hr =>
      obtain ⟨a, len, cap, rfl, rfl, hc, hf, hk⟩ := cut_ok hr
      have hb := fun w => run_sliceBound' (P := P) (w := w) k' h cap .slice3Acap (by omega) (by omega)
      have hb2 := fun w => run_sliceBound' (P := P) (w := w) k h h.toNat .slice3B a0 (by omega)
      refine ⟨_, by simp [Instr.sliceAt, Instr.slice, run_underlying hu, Instr.sliceBounds, sizeOf, typeInfo, hi, hn, hb, hb2]; rfl, .d ?_⟩
      have := hk 0 h.toNat h.toNat true (by omega) (by omega) (by omega) (by omega) (by simp)
      simpa using this
  · exact hs.elim
end
end Go.Ab
