import Derived.Test.YtjnkfcbbgfgmhaaDoorAdS
import Derived.Test.YtjnkfcbbgfgmhaaDoorShelf
import Derived.Lib.AtoiOr
set_option linter.unusedSimpArgs false
set_option linter.unusedVariables false
set_option maxRecDepth 100000
namespace Go.Ab
open Go Go.Ab Go.Proofs Go.RowKit
theorem Agrees.below {m : Mem} {w w' : World} (h : Agrees m w) (hb : Below w.heap.size w w') : Agrees m w' := fun b o v e => by
  rw [World.cell?_of_block (a := ⟨b, o, none⟩) (hb.block b (h.lt e))]; exact h b o v e
/-- A contract of the kit's, taken over: what is answered needs no new memory. -/
theorem Spec.of_scal {P : Program} {f : FuncId} {ds : List D} {H : Hp} {Q : List D → Prop} (hb : hasBody P f = true)
    (h : ∀ (m : Mem) (F : Nat → Prop) (w : World) (vs : Array Value), Glob P F w → Agrees m w → ReadsA m vs.toList ds → Calls P f vs w fun e w' => ∃ v rs, e = .returned v ∧ Q rs ∧ Rets m v rs ∧ Below w.heap.size w w') :
    Spec P f ds H fun rs H' => Q rs ∧ H' = H := by
  refine ⟨hb, fun m F w vs hg ha hH hin hv => (h m F w vs hg ha hv).mono ?_⟩
  rintro e w' ⟨v, rs, rfl, hq, hr, hbl⟩
  exact ⟨v, m, F, rs, H, rfl, ⟨hq, rfl⟩, hr, hH.keep (.refl _) fun b hf => ⟨hbl.block b (hin b hf), fun _ => rfl⟩, ha.below hbl, .refl _,
    ⟨hbl.os, hbl.tape, hbl.output, hbl.size, fun k hk _ => hbl.block k hk⟩, fun b hb => .inl hb, fun b hb => Nat.lt_of_lt_of_le (hin b hb) hbl.size, fun _ _ _ => rfl⟩
theorem Spec.of_scal1 {P : Program} {f : FuncId} {ds : List D} {H : Hp} {rs : List D} (hb : hasBody P f = true)
    (h : ∀ (m : Mem) (F : Nat → Prop) (w : World) (vs : Array Value), Glob P F w → Agrees m w → ReadsA m vs.toList ds → Calls P f vs w fun e w' => ∃ v, e = .returned v ∧ Rets m v rs ∧ Below w.heap.size w w') :
    Spec P f ds H (Ret rs H) :=
  (Spec.of_scal (Q := fun r => r = rs) hb fun m F w vs hg ha hv => (h m F w vs hg ha hv).mono fun e w' ⟨v, h1, h2, h3⟩ => ⟨v, rs, h1, rfl, h2, h3⟩).mono fun _ _ h => h
/-- The same where a row of texts in one new block is answered. -/
theorem Spec.of_texts {P : Program} {f : FuncId} {ds : List D} {H : Hp} {l : List (List UInt8)} {ty : TypeId} (hb : hasBody P f = true) (hlen : l.length ≤ maxLen) (hel : ∀ x ∈ l, x.length ≤ maxLen)
    (h : ∀ (m : Mem) (F : Nat → Prop) (w : World) (vs : Array Value), Glob P F w → Agrees m w → ReadsA m vs.toList ds → Calls P f vs w fun e w' =>
      e = .returned (.slice (some ⟨w.heap.size, 0, none⟩) l.length l.length) ∧ w' = w.alloc (.cells (l.map fun x => Value.string ⟨x.toArray⟩).toArray ty (0, 0))) :
    Spec P f ds H (Ret [.sl 1 true (l.map D.str)] H) := by
  refine Spec.of_calls hb fun m F w vs hg ha hv => (h m F w vs hg ha hv).mono ?_
  rintro e w' ⟨rfl, rfl⟩
  let m' : Mem := fun b o => if b = w.heap.size then (l.map fun x => Value.string ⟨x.toArray⟩)[o]? else m b o
  have hbl : ∀ k, k < w.heap.size → (w.alloc (.cells (l.map fun x => Value.string ⟨x.toArray⟩).toArray ty (0, 0))).heap[k]? = w.heap[k]? := fun k hk => Below.heap_alloc _ _ _ hk
  refine ⟨_, m', rfl, .one ?_, ?_, ?_, rfl, rfl, rfl, by simp, hbl⟩
  · have hcells : ∀ x ∈ l.map D.str, x.cells.length = 1 := by
      intro x hx
      obtain ⟨y, _, rfl⟩ := List.mem_map.1 hx
      rfl
    refine .sl (l.map fun x => Value.string ⟨x.toArray⟩) (by omega) (by simp) (Nat.le_refl _) hlen (fun _ => rfl) hcells (fun i v hi => ?_) ?_
    · simp only [m', if_true, Nat.zero_add]; exact hi
    · have : ∀ l : List (List UInt8), (∀ x ∈ l, x.length ≤ maxLen) → ReadsL m' (l.map fun x => Value.string ⟨x.toArray⟩) ((l.map D.str).flatMap D.cells) := by
        intro l
        induction l with
        | nil => intro _; exact .nil
        | cons x r ih =>
          intro hl
          refine .cons rfl (.v rfl ?_) (ih fun y hy => hl y (List.mem_cons_of_mem _ hy))
          simp only [strOk, decide_eq_true_eq]
          simpa using hl x (List.mem_cons_self ..)
      exact this l hel
  · intro b o v e
    simp only [m'] at e
    split at e
    · rename_i hb; subst hb
      refine (cell_of_row _ w.heap.size o (l.map fun x => Value.string ⟨x.toArray⟩).toArray ty (0, 0) ?_).trans ?_
      · show (w.heap.push _)[w.heap.size]? = _
        rw [Array.getElem?_push, if_pos rfl]
      · simpa using e
    · rw [World.cell?_of_block (a := ⟨b, o, none⟩) (hbl b (ha.lt e))]; exact ha b o v e
  · intro b hb
    funext o
    simp only [m']
    rw [if_neg (by omega)]
/-- Arguments that are texts and the like. -/
theorem ReadsA.v1 {m : Mem} {vs : Array Value} {a : Value} (h : ReadsA m vs.toList [.v a]) : vs = #[a] ∧ strOk a = true := by
  obtain ⟨l⟩ := vs
  cases h with
  | cons h1 t => cases t; cases h1 with | v _ hs => exact ⟨rfl, hs⟩
theorem ReadsA.v2 {m : Mem} {vs : Array Value} {a b : Value} (h : ReadsA m vs.toList [.v a, .v b]) : vs = #[a, b] ∧ strOk a = true ∧ strOk b = true := by
  obtain ⟨l⟩ := vs
  cases h with
  | cons h1 t => cases t with
    | cons h2 t => cases t; cases h1 with | v _ hs => cases h2 with | v _ hs2 => exact ⟨rfl, hs, hs2⟩
theorem ReadsA.v3 {m : Mem} {vs : Array Value} {a b c : Value} (h : ReadsA m vs.toList [.v a, .v b, .v c]) : vs = #[a, b, c] ∧ strOk a = true ∧ strOk b = true ∧ strOk c = true := by
  obtain ⟨l⟩ := vs
  cases h with
  | cons h1 t => cases t with
    | cons h2 t => cases t with
      | cons h3 t => cases t; cases h1 with | v _ hs => cases h2 with | v _ hs2 => cases h3 with | v _ hs3 => exact ⟨rfl, hs, hs2, hs3⟩
theorem strOk_len {l : List UInt8} (h : l.length ≤ maxLen) : strOk (.string ⟨l.toArray⟩) = true := by
  simp only [strOk, decide_eq_true_eq]; simpa using h
theorem below_drewN (w : World) (n : Nat) : Below w.heap.size w (w.drewN n) := ⟨rfl, rfl, rfl, Nat.le_refl _, fun _ _ => rfl⟩
theorem below_grow (w : World) (n : Nat) (os : Array Obj) : Below w.heap.size w (Go.Sort.grow (w.drewN n) os) :=
  ⟨rfl, rfl, rfl, by simp [Go.Sort.grow, World.drewN], fun k hk => by simp only [Go.Sort.grow, World.drewN]; rw [Array.getElem?_append_left hk]⟩
theorem Glob.len {P : Program} {F : Nat → Prop} {w : World} (h : Glob P F w) {g : Nat} (hg : P.globalNamed "internal/bytealg.MaxLen" = some g) : ∃ m : Int, w.cell? ⟨g, 0, none⟩ = some (.int .i64 m) := (h.maxLen g hg).2.2
theorem Glob.tabIs {P : Program} {F : Nat → Prop} {w : World} (h : Glob P F w) {n : String} {k : IntKind} {zs : List Int} (hx : (n, k, zs) ∈ globTabs) {g : Nat} (hg : P.globalNamed n = some g) : Lib.TabIs P w n k zs := by
  obtain ⟨_, _, t, fr, hh⟩ := h.tab _ hx g hg
  unfold Lib.TabIs World.var?
  rw [hg]
  simp only [Option.bind_some, hh]
theorem Glob.varIs {P : Program} {F : Nat → Prop} {w : World} (h : Glob P F w) {n : String} (hx : n ∈ globVars) {g : Nat} (hg : P.globalNamed n = some g) : ∃ tp p, w.var? P n = some #[.iface tp p] := by
  obtain ⟨_, _, tp, p, t, fr, hh⟩ := h.vars _ hx g hg
  refine ⟨tp, p, ?_⟩
  unfold World.var?
  rw [hg]
  simp only [Option.bind_some, hh]
theorem cutAt_fst_le (b : UInt8) (l : List UInt8) : (cutAt b l).1.length ≤ l.length ∧ (cutAt b l).2.1.length ≤ l.length := by
  have := cutAt_len b l; omega

theorem scut_spec (H : Hp) (l : List UInt8) (b : UInt8) (hl : l.length < 4294967281) : Spec Tryd.prog 24 [D.str l, D.str [b]] H (Ret [D.str (cutAt b l).1, D.str (cutAt b l).2.1, D.bool (cutAt b l).2.2] H) := by
  refine Spec.of_scal1 (by kernel_rfl) fun m F w vs hg ha hv => ?_
  obtain ⟨rfl, _, _⟩ := hv.v2
  obtain ⟨k, hk⟩ := hg.len (g := 2) (by kernel_rfl)
  refine (Tryd.strings_Cut ⟨l.toArray⟩ ⟨[b].toArray⟩ k w (by simpa [ByteArray.size] using hl) hk).mono ?_
  rintro e w' ⟨rfl, n, rfl⟩
  have e1 : Lib.cut (⟨l.toArray⟩ : ByteArray).data.toList (⟨[b].toArray⟩ : ByteArray).data.toList = cutAt b l := cut_one b l
  rw [e1]
  obtain ⟨h1, h2⟩ := cutAt_fst_le b l
  refine ⟨_, rfl, .more (.cons (.v rfl (strOk_len ?_)) (.cons (.v rfl (strOk_len ?_)) (.cons (.v rfl rfl) .nil))), below_drewN w n⟩
  · unfold maxLen; omega
  · unfold maxLen; omega
theorem itoa_spec (H : Hp) (n : Int) (h0 : -9223372036854775808 ≤ n) (h1 : n ≤ 9223372036854775807) : Spec Tryd.prog 14 [D.int n] H (Ret [D.str (Lib.itoa n)] H) := by
  refine Spec.of_scal1 (by kernel_rfl) fun m F w vs hg ha hv => ?_
  obtain ⟨rfl, _⟩ := hv.v1
  refine (Tryd.strconv_Itoa n h0 h1 w (hg.tabIs (by simp [globTabs]) (g := 5) (by kernel_rfl))).mono ?_
  rintro e w' ⟨rfl, k, os, rfl⟩
  have := Lib.itoa_length_le n h0 h1
  exact ⟨_, rfl, .one (.v rfl (strOk_len (by unfold maxLen; omega))), below_grow w k os⟩
theorem formatInt_spec (H : Hp) (n : Int) (h0 : -9223372036854775808 ≤ n) (h1 : n ≤ 9223372036854775807) : Spec Tryd.prog 29 [D.int n, D.int 10] H (Ret [D.str (Lib.itoa n)] H) := by
  refine Spec.of_scal1 (by kernel_rfl) fun m F w vs hg ha hv => ?_
  obtain ⟨rfl, _⟩ := hv.v2
  refine (Tryd.strconv_FormatInt_10 n h0 h1 w (hg.tabIs (by simp [globTabs]) (g := 5) (by kernel_rfl))).mono ?_
  rintro e w' ⟨rfl, k, os, rfl⟩
  have := Lib.itoa_length_le n h0 h1
  exact ⟨_, rfl, .one (.v rfl (strOk_len (by unfold maxLen; omega))), below_grow w k os⟩
/-- What 'ParseInt' answers. -/
def PIntQ (s : List UInt8) (rs : List D) : Prop :=
  (∃ v, Lib.parseIntB 64 s = .ok v ∧ rs = [D.int v, .v .nilIface]) ∨ ((∀ v, Lib.parseIntB 64 s ≠ .ok v) ∧ ∃ n t p, rs = [D.int n, .v (.iface t (.pointer (some p)))])
theorem parseInt_spec (H : Hp) (s : List UInt8) (hs : s.length ≤ 281474976710656) : Spec Tryd.prog 28 [D.str s, D.int 10, D.int 64] H (fun rs H' => PIntQ s rs ∧ H' = H) := by
  refine Spec.of_scal (by kernel_rfl) fun m F w vs hg ha hv => ?_
  obtain ⟨rfl, _, _⟩ := hv.v3
  rcases hp : Lib.parseIntB 64 s with v | _ | _
  · refine (Tryd.strconv_ParseInt_10_at64_ok ⟨s.toArray⟩ (by simp [ByteArray.size]; omega) v (by simpa using hp) w).mono ?_
    rintro e w' ⟨rfl, hw⟩
    refine ⟨_, _, rfl, .inl ⟨v, hp, rfl⟩, .more (.cons (.v rfl rfl) (.cons (.v rfl rfl) .nil)), ?_⟩
    rcases hw with rfl | ⟨t, rfl⟩
    · exact Below.refl _ _
    · exact Lib.bytesWorld_below _ _ _
  · obtain ⟨tp, p, hvar⟩ := hg.varIs (n := "strconv.ErrSyntax") (by simp [globVars]) (g := 3) (by kernel_rfl)
    refine (Any.strconv_ParseInt_10_at64_syntax_var Tryd.laysC174 ⟨s.toArray⟩ (by simpa [ByteArray.size] using hs) (by simpa using hp) tp p w hvar).mono ?_
    rintro e w' ⟨N, rfl, _, _, hb⟩
    exact ⟨_, _, rfl, .inr ⟨(fun v e => by rw [hp] at e; cases e), _, _, _, rfl⟩, .more (.cons (.v rfl rfl) (.cons (.v rfl rfl) .nil)), hb⟩
  · obtain ⟨tp, p, hvar⟩ := hg.varIs (n := "strconv.ErrRange") (by simp [globVars]) (g := 4) (by kernel_rfl)
    refine (Tryd.strconv_ParseInt_10_at64_range_var ⟨s.toArray⟩ (by simpa [ByteArray.size] using hs) (by simpa using hp) tp p w hvar).mono ?_
    rintro e w' ⟨N, rfl, _, _, hb⟩
    exact ⟨_, _, rfl, .inr ⟨(fun v e => by rw [hp] at e; cases e), _, _, _, rfl⟩, .more (.cons (.v rfl rfl) (.cons (.v rfl rfl) .nil)), hb⟩
theorem splitAcc_lens (b : UInt8) (l : List UInt8) : ∀ x ∈ splitAcc b [] l, x.length ≤ l.length := fun x hx => by
  have := splitAcc_mem b l [] x hx
  simpa using this
theorem ssplit_spec (H : Hp) (l : List UInt8) (b : UInt8) (hl : l.length < 4294967281) : Spec Tryd.prog 53 [D.str l, D.str [b]] H (Ret [.sl 1 true ((splitAcc b [] l).map D.str)] H) := by
  have h1 := splitAcc_len b l []
  have h2 := splitAcc_lens b l
  have hsz : (⟨l.toArray⟩ : ByteArray).size = l.length := by simp [ByteArray.size]
  refine Spec.of_texts (ty := 9) (by kernel_rfl) (by unfold maxLen; omega) (fun x hx => by have := h2 x hx; unfold maxLen; omega) fun m F w vs hg ha hv => ?_
  obtain ⟨rfl, _, _⟩ := hv.v2
  obtain ⟨k, hk⟩ := hg.len (g := 2) (by kernel_rfl)
  refine (Tryd.strings_Split ⟨l.toArray⟩ ⟨[b].toArray⟩ k w (by rw [hsz]; omega) hk (by simp [ByteArray.size])).mono ?_
  have e0 := split_one b l
  have e1 : (Lib.splitB ⟨[b].toArray⟩ 0 (Lib.countB ⟨l.toArray⟩ ⟨[b].toArray⟩) ⟨l.toArray⟩).map (·.data.toList) = splitAcc b [] l := by
    rw [Lib.splitB_data]; exact e0
  have e2 := Lib.splitB_all ⟨[b].toArray⟩ (by simp [ByteArray.size]) 0 _ ⟨l.toArray⟩ rfl
  rintro e w' ⟨rfl, rfl⟩
  rw [← e1]
  simp only [List.map_map, List.length_map, e2, true_and]
  rfl
theorem contains_spec (H : Hp) (l : List (List UInt8)) (f : Bool) (s : List UInt8) : Spec Tryd.prog 32 [.sl 1 f (l.map D.str), D.str s] H (Ret [D.bool (decide (s ∈ l))] H) := by
  refine Spec.of_scal1 (by kernel_rfl) fun m F w vs hg ha hv => ?_
  obtain ⟨vl⟩ := vs
  cases hv with
  | cons h1 t => cases t with
    | cons h2 t =>
      cases t
      cases h2
      generalize hm : l.map D.str = ml at h1
      cases h1 with
      | nil =>
        have : l = [] := by simpa using hm
        subst this
        refine (Tryd.slices_Contains_string_empty none 0 ⟨s.toArray⟩ w).mono ?_
        rintro e w' ⟨rfl, rfl⟩
        exact ⟨_, rfl, .one (.v rfl rfl), Below.refl _ _⟩
      | @sl0 ad =>
        have : l = [] := by simpa using hm
        subst this
        refine (Tryd.slices_Contains_string_empty (some ad) 0 ⟨s.toArray⟩ w).mono ?_
        rintro e w' ⟨rfl, rfl⟩
        exact ⟨_, rfl, .one (.v rfl rfl), Below.refl _ _⟩
      | @sl b off n c _ _ _ vals hz hn hc hcm hf hx hmm hr =>
        subst hm
        have hlen : n = l.length := by simpa using hn
        have hvals : vals = l.map fun x => Value.string ⟨x.toArray⟩ := by
          have : ∀ (l : List (List UInt8)) (vals : List Value), ReadsL m vals ((l.map D.str).flatMap D.cells) → vals = l.map fun x => Value.string ⟨x.toArray⟩ := by
            intro l
            induction l with
            | nil => intro vals h; cases h; rfl
            | cons x r ih =>
              intro vals h
              cases h with
              | cons h1 h t => cases h; rw [ih _ t]; rfl
          exact this l vals hr
        subst hvals
        refine (Tryd.slices_Contains_string b off n c (l.map fun x => ⟨x.toArray⟩) ⟨s.toArray⟩ w (by simp; omega) (by unfold maxLen at hcm; omega) (fun j hj => ?_)).mono ?_
        · have hj' : j < l.length := by simpa using hj
          apply ha
          apply hmm
          simp [hj', List.getD_eq_getElem?_getD]
        · rintro e w' ⟨rfl, rfl⟩
          refine ⟨_, rfl, .one ?_, Below.refl _ _⟩
          have : Lib.containsS ((l.map fun x => (⟨x.toArray⟩ : ByteArray)).take n) ⟨s.toArray⟩ = decide (s ∈ l) := by
            rw [List.take_of_length_le (by simp; omega), Bool.eq_iff_iff, Lib.containsS_iff, decide_eq_true_eq]
            simp
          rw [this]
          exact .v rfl rfl
theorem fieldsGo_lens : ∀ (l cur : List UInt8), ∀ x ∈ Lib.fieldsGo cur l, x.length ≤ cur.length + l.length
  | [], cur, x, h => by
    simp only [Lib.fieldsGo] at h
    split at h
    · cases h
    · simp at h; subst h; simp
  | b :: r, cur, x, h => by
    simp only [Lib.fieldsGo] at h
    split at h
    · split at h
      · have := fieldsGo_lens r [] x h
        simp at this ⊢; omega
      · rcases List.mem_cons.1 h with rfl | h
        · simp
        · have := fieldsGo_lens r [] x h
          simp at this ⊢; omega
    · have := fieldsGo_lens r (cur ++ [b]) x h
      simp at this ⊢; omega
theorem fieldsGo_len : ∀ (l cur : List UInt8), (Lib.fieldsGo cur l).length ≤ l.length + 1
  | [], cur => by simp only [Lib.fieldsGo]; split <;> simp
  | b :: r, cur => by
    simp only [Lib.fieldsGo]
    split
    · split
      · have := fieldsGo_len r []; simp only [List.length_cons]; omega
      · have := fieldsGo_len r []; simp only [List.length_cons]; omega
    · have := fieldsGo_len r (cur ++ [b]); simp only [List.length_cons]; omega
theorem sfields_spec (H : Hp) (l : List UInt8) (hl : l.length < 4294967281) (hasc : ∀ b ∈ l, b.toNat < 128) : Spec Tryd.prog 30 [D.str l] H (Ret [.sl 1 true ((Lib.fields l).map D.str)] H) := by
  have h1 := fieldsGo_len l []
  have h2 := fieldsGo_lens l []
  refine Spec.of_texts (ty := 9) (by kernel_rfl) (by unfold maxLen Lib.fields; omega) (fun x hx => by have := h2 x hx; simp at this; unfold maxLen; omega) fun m F w vs hg ha hv => ?_
  obtain ⟨rfl, _⟩ := hv.v1
  exact Tryd.strings_Fields ⟨l.toArray⟩ w (by simpa [ByteArray.size] using hl) (fun j b hj => hasc b (List.mem_of_getElem? hj)) (hg.tabIs (by simp [globTabs]) (g := 0) (by kernel_rfl))
theorem readsTexts {m : Mem} : ∀ {l : List (List UInt8)} {vals : List Value}, ReadsL m vals ((l.map D.str).flatMap D.cells) → vals = l.map fun x => Value.string ⟨x.toArray⟩
  | [], vals, h => by cases h; rfl
  | x :: r, vals, h => by
    cases h with
    | cons h1 h t => cases h; rw [readsTexts t]; rfl
theorem join_spec (H : Hp) (l : List (List UInt8)) (f : Bool) (s : List UInt8) (hN : l.length ≤ 140737488355328) (hJ : (Lib.join l s).length ≤ 140737488355328) : Spec Tryd.prog 35 [.sl 1 f (l.map D.str), D.str s] H (Ret [D.str (Lib.join l s)] H) := by
  refine Spec.of_scal1 (by kernel_rfl) fun m F w vs hg ha hv => ?_
  obtain ⟨vl⟩ := vs
  cases hv with
  | cons h1 t => cases t with
    | cons h2 t =>
      cases t
      cases h2
      generalize hm : l.map D.str = ml at h1
      cases h1 with
      | nil =>
        have : l = [] := by simpa using hm
        subst this
        refine (Tryd.strings_Join_none none 0 ⟨s.toArray⟩ w).mono ?_
        rintro e w' ⟨rfl, rfl⟩
        exact ⟨_, rfl, .one (.v rfl rfl), Below.refl _ _⟩
      | @sl0 ad =>
        have : l = [] := by simpa using hm
        subst this
        refine (Tryd.strings_Join_none (some ad) 0 ⟨s.toArray⟩ w).mono ?_
        rintro e w' ⟨rfl, rfl⟩
        exact ⟨_, rfl, .one (.v rfl rfl), Below.refl _ _⟩
      | @sl b off n c _ _ _ vals hz hn hc hcm hf hx hmm hr =>
        subst hm
        have hlen : n = l.length := by simpa using hn
        have hvals := readsTexts hr
        subst hvals
        cases l with
        | nil =>
          simp at hlen
          subst hlen
          refine (Tryd.strings_Join_none _ c ⟨s.toArray⟩ w).mono ?_
          rintro e w' ⟨rfl, rfl⟩
          exact ⟨_, rfl, .one (.v rfl rfl), Below.refl _ _⟩
        | cons x r =>
          have hjoin : Lib.join (((x :: r).map fun x => (⟨x.toArray⟩ : ByteArray)).map (·.data.toList)) (⟨s.toArray⟩ : ByteArray).data.toList = Lib.join (x :: r) s := by
            congr 1
            rw [List.map_map]
            have : ((fun x : ByteArray => x.data.toList) ∘ fun x : List UInt8 => (⟨x.toArray⟩ : ByteArray)) = id := rfl
            rw [this, List.map_id]
          have hb0 : m b (off + 0) = some (Value.string ⟨x.toArray⟩) := hmm 0 _ rfl
          have hbk : b < w.heap.size := ha.lt hb0
          have := Tryd.strings_Join b off c ((x :: r).map fun x => (⟨x.toArray⟩ : ByteArray)) ⟨s.toArray⟩ w (fun j y hj => ?_) hbk (by rw [List.length_map]; exact hN) (by rw [List.length_map, ← hlen]; exact hc) (by rw [hjoin]; exact hJ)
          · rw [List.length_map, ← hlen, hjoin] at this
            refine this.mono ?_
            rintro e w' ⟨rfl, hbl⟩
            exact ⟨_, rfl, .one (.v rfl (strOk_len (by unfold maxLen; omega))), hbl⟩
          · apply ha
            apply hmm
            rw [List.getElem?_map] at hj ⊢
            cases hx : (x :: r)[j]? with
            | none => rw [hx] at hj; cases hj
            | some z => rw [hx] at hj; cases hj; rfl
end Go.Ab
