/- THE ABSTRACT LAYER, PART 1b: '==' on structs and arrays of numbers, texts and truths. -/
import Derived.Test.YtjnkfcbbgfgmhaaDoorAbCore
import Derived.Laws.StructEq
import Derived.Laws.Small
set_option linter.unusedSimpArgs false
set_option linter.unusedVariables false
namespace Go.Ab
open Go

def sb (s : ByteArray) : List UInt8 := s.data.toList
@[simp] theorem sb_mk (l : List UInt8) : sb ⟨l.toArray⟩ = l := rfl

inductive LK where
  | int | bool | string
  deriving DecidableEq
/-- Leaves of a type, if it is made of numbers, texts and truths alone. -/
def lfs (P : Program) : Nat → TypeId → Option (List LK)
  | 0, _ => none
  | d + 1, t =>
    match P.underlying t with
    | some (.int _) => some [.int]
    | some .bool => some [.bool]
    | some .string => some [.string]
    | some (.struct fs) => if P.stoodInHeld t = true then none else
      fs.toList.foldr (fun f acc => match acc, lfs P d f.type with
        | some r, some l => if f.name ≠ "_" ∧ P.cellsOf f.type = l.length then some (l ++ r) else none
        | _, _ => none) (some [])
    | some (.array n e) => match lfs P d e with | some l => if P.cellsOf e = l.length then some (List.replicate n l).flatten else none | none => none
    | _ => none
def offsOk (P : Program) : Nat → List Field → Bool
  | _, [] => true
  | o, f :: r => f.offset == o && offsOk P (o + P.cellsOf f.type) r
/-- Struct types' fields lie one behind another, all the way down. -/
def offsAll (P : Program) : Nat → TypeId → Bool
  | 0, _ => false
  | d + 1, t =>
    match P.underlying t with
    | some (.struct fs) => offsOk P 0 fs.toList && fs.toList.all fun f => offsAll P d f.type
    | some (.array _ e) => offsAll P d e
    | _ => true
def dAgg : TypeDesc → Bool
  | .struct _ => true
  | .array _ _ => true
  | _ => false
def eqTy (P : Program) (t : TypeId) : Option (List LK) := if P.eqGuardType P.depth t = true then none else if (offsAll P 8 t && (P.underlying t).any dAgg) = true then lfs P 8 t else none

def okK : List LK → List D → Bool
  | [], [] => true
  | .int :: r, .v (.int _ _) :: s => okK r s
  | .bool :: r, .v (.bool _) :: s => okK r s
  | .string :: r, .v (.string _) :: s => okK r s
  | _, _ => false
/-- Two lists of cells of numbers, texts and truths: the same? -/
def eqCells : List D → List D → Option Bool
  | [], [] => some true
  | .v (.int k a) :: r, .v (.int k' b) :: s => if k = k' then (eqCells r s).map (decide (a = b) && ·) else none
  | .v (.string a) :: r, .v (.string b) :: s => (eqCells r s).map (decide (sb a = sb b) && ·)
  | .v (.bool a) :: r, .v (.bool b) :: s => (eqCells r s).map ((a == b) && ·)
  | _, _ => none

theorem okK_len : ∀ {l : List LK} {ds : List D}, okK l ds = true → l.length = ds.length
  | [], [], _ => rfl
  | [], _ :: _, h => by simp [okK] at h
  | .int :: r, [], h => by simp [okK] at h
  | .bool :: r, [], h => by simp [okK] at h
  | .string :: r, [], h => by simp [okK] at h
  | .int :: r, .v (.int _ _) :: s, h => by simp [okK] at h; simp [okK_len h]
  | .bool :: r, .v (.bool _) :: s, h => by simp [okK] at h; simp [okK_len h]
  | .string :: r, .v (.string _) :: s, h => by simp [okK] at h; simp [okK_len h]
  | .int :: r, d :: s, h => by
    cases d with
    | v x => cases x with
      | int => simp [okK] at h; simp [okK_len h]
      | _ => simp [okK] at h
    | _ => simp [okK] at h
  | .bool :: r, d :: s, h => by
    cases d with
    | v x => cases x with
      | bool => simp [okK] at h; simp [okK_len h]
      | _ => simp [okK] at h
    | _ => simp [okK] at h
  | .string :: r, d :: s, h => by
    cases d with
    | v x => cases x with
      | string => simp [okK] at h; simp [okK_len h]
      | _ => simp [okK] at h
    | _ => simp [okK] at h

/-- One leaf. -/
theorem leaf_eq {P : Program} {m : Mem} {w : World} {t : TypeId} {k : LK} {d e : D} {x y : Value} (n : Nat) (hk : match k with
      | .int => ∃ i, P.underlying t = some (.int i)
      | .bool => P.underlying t = some .bool
      | .string => P.underlying t = some .string) (h1 : okK [k] [d] = true) (h2 : okK [k] [e] = true) {b : Bool} (hb : eqCells [d] [e] = some b) (hx : Reads m x d) (hy : Reads m y e) :
    (Op.equalIn (n + 1) t x y).run P w = .ok b w := by
  cases d with
  | v u =>
    cases e with
    | v v =>
      cases hx; cases hy
      cases k with
      | int =>
        obtain ⟨i, hi⟩ := hk
        cases x with
        | int ku a => cases y with
          | int kv b' =>
            simp only [eqCells, Option.map_some, Bool.and_true] at hb
            split at hb
            · rename_i e; subst e; cases hb
              rw [run_equalIn_int w n t ku i a b' hi]
              congr 1
            · cases hb
          | _ => simp [okK] at h2
        | _ => simp [okK] at h1
      | bool =>
        cases x with
        | bool a => cases y with
          | bool b' =>
            simp only [eqCells, Option.map_some, Bool.and_true, Option.some.injEq] at hb
            rw [run_equalIn_bool' w n t a b' hk, hb]
          | _ => simp [okK] at h2
        | _ => simp [okK] at h1
      | string =>
        cases x with
        | string a => cases y with
          | string b' =>
            simp only [eqCells, Option.map_some, Bool.and_true, Option.some.injEq] at hb
            rw [run_equalIn_string w n t a b' hk, ByteArray.toList_eq, ByteArray.toList_eq, ← hb]
            congr 1
            unfold sb
            by_cases e : a.data.toList = b'.data.toList
            · rw [e]; simp
            · rw [decide_eq_false e]; exact beq_eq_false_iff_ne.2 e
          | _ => simp [okK] at h2
        | _ => simp [okK] at h1
    | sl => cases k <;> simp [okK] at h2
    | agg => cases k <;> simp [okK] at h2
  | sl => cases k <;> simp [okK] at h1
  | agg => cases k <;> simp [okK] at h1

theorem okK_cut : ∀ (l r : List LK) {ds : List D}, okK (l ++ r) ds = true → okK l (ds.take l.length) = true ∧ okK r (ds.drop l.length) = true
  | [], r, ds, h => ⟨by simp [okK], by simpa using h⟩
  | k :: l, r, [], h => by cases k <;> simp [okK] at h
  | k :: l, r, d :: ds, h => by
    simp only [List.cons_append] at h
    have key : okK [k] [d] = true ∧ okK (l ++ r) ds = true := by
      cases k <;> (cases d with
        | v x => cases x <;> simp_all [okK]
        | _ => simp [okK] at h)
    obtain ⟨h1, h2⟩ := okK_cut l r key.2
    refine ⟨?_, by simpa using h2⟩
    simp only [List.length_cons, List.take_succ_cons]
    cases k <;> (cases d with
      | v x => cases x <;> simp_all [okK]
      | _ => simp [okK] at key)
theorem eqCells_cut : ∀ (n : Nat) {ds es : List D} {b : Bool}, eqCells ds es = some b → ∃ b1 b2, eqCells (ds.take n) (es.take n) = some b1 ∧ eqCells (ds.drop n) (es.drop n) = some b2 ∧ b = (b1 && b2)
  | 0, ds, es, b, h => ⟨true, b, by simp [eqCells], by simpa using h, by simp⟩
  | n + 1, [], [], b, h => ⟨true, b, by simp [eqCells], by simpa using h, by simp⟩
  | n + 1, [], _ :: _, b, h => by simp [eqCells] at h
  | n + 1, d :: ds, [], b, h => by cases d with
    | v x => cases x <;> simp [eqCells] at h
    | _ => simp [eqCells] at h
  | n + 1, d :: ds, e :: es, b, h => by
    have key : ∃ b0 b', eqCells [d] [e] = some b0 ∧ eqCells ds es = some b' ∧ b = (b0 && b') ∧ ∀ rs ss r, eqCells rs ss = some r → eqCells (d :: rs) (e :: ss) = some (b0 && r) := by
      cases d with
      | v x => cases e with
        | v y =>
          cases x with
          | int k a => cases y with
            | int k' a' =>
              simp only [eqCells] at h
              by_cases hk : k = k'
              · rw [if_pos hk] at h
                cases hr : eqCells ds es with
                | none => simp [hr] at h
                | some r =>
                  rw [hr] at h
                  simp only [Option.map_some, Option.some.injEq] at h
                  exact ⟨decide (a = a'), r, by simp [eqCells, hk], rfl, h.symm, fun rs ss r hr => by simp [eqCells, hk, hr]⟩
              · rw [if_neg hk] at h; cases h
            | _ => simp [eqCells] at h
          | string a => cases y with
            | string a' =>
              simp only [eqCells] at h
              cases hr : eqCells ds es with
              | none => simp [hr] at h
              | some r =>
                rw [hr] at h
                simp only [Option.map_some, Option.some.injEq] at h
                exact ⟨decide (sb a = sb a'), r, by simp [eqCells], rfl, h.symm, fun rs ss r hr => by simp [eqCells, hr]⟩
            | _ => simp [eqCells] at h
          | bool a => cases y with
            | bool a' =>
              simp only [eqCells] at h
              cases hr : eqCells ds es with
              | none => simp [hr] at h
              | some r =>
                rw [hr] at h
                simp only [Option.map_some, Option.some.injEq] at h
                exact ⟨a == a', r, by simp [eqCells], rfl, h.symm, fun rs ss r hr => by simp [eqCells, hr]⟩
            | _ => simp [eqCells] at h
          | _ => simp [eqCells] at h
        | _ => cases x <;> simp [eqCells] at h
      | _ => simp [eqCells] at h
    obtain ⟨b0, b', h1, h2, rfl, h3⟩ := key
    obtain ⟨b1, b2, e1, e2, rfl⟩ := eqCells_cut n h2
    exact ⟨b0 && b1, b2, by simpa using h3 _ _ _ e1, by simpa using e2, by simp [Bool.and_assoc]⟩


theorem fieldsOf_eq {P : Program} {t : TypeId} {fs : Array Field} (h : P.underlying t = some (.struct fs)) : P.underlying t = some (.struct (P.fieldsOf t)) ∧ P.fieldsOf t = fs := by
  unfold Program.fieldsOf; rw [h]; exact ⟨rfl, rfl⟩

/-- A value of a type: one cell, or an aggregate. -/
inductive IsOf (m : Mem) (P : Program) (t : TypeId) : Value → List D → Prop
  | one {v d} (ha : ∀ w : World, (isAgg t).run P w = .ok false w) (h : Reads m v d) : IsOf m P t v [d]
  | agg {vs : Array Value} {ds} (ha : ∀ w : World, (isAgg t).run P w = .ok true w) (h : ReadsL m vs.toList ds) : IsOf m P t (.agg vs) ds

theorem isAgg_of {P : Program} {t : TypeId} {d : TypeDesc} (h : P.underlying t = some d) (w : World) : (isAgg t).run P w = .ok (dAgg d) w := by
  unfold isAgg
  rw [Sem.run_bind, run_underlying h w]
  cases d <;> rfl

theorem isOf_part {P : Program} {m : Mem} {w : World} {t : TypeId} {d : Nat} {l : List LK} (hl : lfs P d t = some l) (hc : P.cellsOf t = l.length) (vs : Array Value) (off : Nat) (ds : List D)
    (hr : ReadsL m (vs.toList.drop off) ds) (hk : okK l (ds.take l.length) = true) : ∃ v, (part t vs off).run P w = .ok v w ∧ IsOf m P t v (ds.take l.length) := by
  have hlen := okK_len hk
  have one : ∀ u, P.underlying t = some u → dAgg u = false → l.length = 1 → ∃ v, (part t vs off).run P w = .ok v w ∧ IsOf m P t v (ds.take l.length) := by
    intro u hu hag h1
    rw [h1] at hlen ⊢
    have hds : ∃ e r, ds = e :: r := by
      cases ds with
      | nil => simp at hlen
      | cons e r => exact ⟨e, r, rfl⟩
    obtain ⟨e, r, rfl⟩ := hds
    obtain ⟨v, hv, _, hv2⟩ := hr.get 0 e rfl
    have hv' : vs[off]? = some v := by simpa using hv
    have ha : ∀ w : World, (isAgg t).run P w = .ok false w := fun w => by rw [isAgg_of hu w, hag]
    exact ⟨v, by simp [part, ha, hv'], .one ha hv2⟩
  have agg : ∀ u, P.underlying t = some u → dAgg u = true → ∃ v, (part t vs off).run P w = .ok v w ∧ IsOf m P t v (ds.take l.length) := by
    intro u hu hag
    have ha : ∀ w : World, (isAgg t).run P w = .ok true w := fun w => by rw [isAgg_of hu w, hag]
    have hs : (sizeOf t).run P w = .ok l.length w := by
      cases hi : P.info? t with
      | none => simp [Program.underlying, hi] at hu
      | some i =>
        have : i.size = l.length := by rw [← hc]; simp [Program.cellsOf, hi]
        simp [sizeOf, typeInfo, hi, this]
    refine ⟨.agg (vs.extract off (off + l.length)), by simp [part, ha, hs], .agg ha ?_⟩
    have : (vs.extract off (off + l.length)).toList = (vs.toList.drop off).take l.length := by simp
    rw [this]; exact hr.take _
  cases d with
  | zero => simp [lfs] at hl
  | succ d =>
    simp only [lfs] at hl
    split at hl
    · rename_i k hu; cases hl; exact one _ hu rfl rfl
    · rename_i hu; cases hl; exact one _ hu rfl rfl
    · rename_i hu; cases hl; exact one _ hu rfl rfl
    · rename_i fs hu; exact agg _ hu rfl
    · rename_i n e hu; exact agg _ hu rfl
    · cases hl

theorem eqIn_ok {P : Program} {m : Mem} : ∀ (d : Nat) (t : TypeId) (l : List LK) (n d' : Nat) (w : World) (x y : Value) (ds es : List D) (b : Bool), lfs P d t = some l → offsAll P d' t = true → d ≤ n →
    IsOf m P t x ds → IsOf m P t y es → okK l ds = true → okK l es = true → eqCells ds es = some b → (Op.equalIn n t x y).run P w = .ok b w
  | 0, _, _, _, _, _, _, _, _, _, _, hl, _, _, _, _, _, _, _ => by simp [lfs] at hl
  | d + 1, t, l, n, d', w, x, y, ds, es, b, hl, ho, hn, hx, hy, k1, k2, hb => by
    obtain ⟨n, rfl⟩ : ∃ n', n = n' + 1 := ⟨n - 1, by omega⟩
    have leaf : ∀ u k, P.underlying t = some u → dAgg u = false → l = [k] → (match k with
      | LK.int => ∃ i, P.underlying t = some (.int i)
      | LK.bool => P.underlying t = some .bool
      | LK.string => P.underlying t = some .string) → (Op.equalIn (n + 1) t x y).run P w = .ok b w := by
      intro u k hu hag hk hkk
      subst hk
      have ha := isAgg_of hu
      rw [hag] at ha
      cases hx with
      | agg ha' _ => have := ha' w; rw [ha w] at this; cases this
      | one _ h1 =>
        cases hy with
        | agg ha' _ => have := ha' w; rw [ha w] at this; cases this
        | one _ h2 => exact leaf_eq n hkk k1 k2 hb h1 h2
    simp only [lfs] at hl
    split at hl
    · rename_i k hu; cases hl; exact leaf _ .int hu rfl rfl ⟨_, hu⟩
    · rename_i hu; cases hl; exact leaf _ .bool hu rfl rfl hu
    · rename_i hu; cases hl; exact leaf _ .string hu rfl rfl hu
    · rename_i fa hu
      split at hl
      · cases hl
      · rename_i hst
        have ha := isAgg_of hu
        simp only [dAgg] at ha
        have hoffs : offsOk P 0 fa.toList = true ∧ ∃ d'', ∀ f ∈ fa.toList, offsAll P d'' f.type = true := by
          cases d' with
          | zero => simp [offsAll] at ho
          | succ d' =>
            simp only [offsAll, hu, Bool.and_eq_true, List.all_eq_true] at ho
            exact ⟨ho.1, d', ho.2⟩
        obtain ⟨ho1, d'', ho2⟩ := hoffs
        cases hx with
        | one ha' _ => have := ha' w; rw [ha w] at this; cases this
        | @agg xs _ _ hrx =>
          cases hy with
          | one ha' _ => have := ha' w; rw [ha w] at this; cases this
          | @agg ys _ _ hry =>
            obtain ⟨hu', hfa⟩ := fieldsOf_eq hu
            rw [run_equalIn_struct w n t _ _ hu' (by simpa using hst), hfa]
            have key : ∀ (fs : List Field) (l : List LK) (o : Nat) (ds es : List D) (b : Bool) (w : World), (∀ f ∈ fs, offsAll P d'' f.type = true) →
                fs.foldr (fun f acc => match acc, lfs P d f.type with
                  | some r, some l => if f.name ≠ "_" ∧ P.cellsOf f.type = l.length then some (l ++ r) else none
                  | _, _ => none) (some []) = some l → offsOk P o fs = true → ReadsL m (xs.toList.drop o) ds → ReadsL m (ys.toList.drop o) es →
                okK l ds = true → okK l es = true → eqCells ds es = some b → (Op.eqFields n xs ys fs).run P w = .ok b w := by
              intro fs
              induction fs with
              | nil =>
                intro l o ds es b w _ hf _ _ _ k1 k2 hb
                simp only [List.foldr_nil, Option.some.injEq] at hf
                subst hf
                have e1 := okK_len k1; have e2 := okK_len k2
                have : ds = [] := List.eq_nil_of_length_eq_zero (by simpa using e1.symm)
                have : es = [] := List.eq_nil_of_length_eq_zero (by simpa using e2.symm)
                subst ds es
                simp only [eqCells, Option.some.injEq] at hb
                subst hb
                rfl
              | cons f fs ih =>
                intro l o ds es b w hall hf hof hrx hry k1 k2 hb
                simp only [List.foldr_cons] at hf
                split at hf
                · rename_i r l1 hfr hfl
                  split at hf
                  · rename_i hc
                    cases hf
                    simp only [offsOk, Bool.and_eq_true, beq_iff_eq] at hof
                    obtain ⟨hfo, hof⟩ := hof
                    obtain ⟨a1, a2⟩ := okK_cut l1 r k1
                    obtain ⟨b1, b2⟩ := okK_cut l1 r k2
                    obtain ⟨c1, c2, e1, e2, rfl⟩ := eqCells_cut l1.length hb
                    obtain ⟨vx, hpx, hix⟩ := isOf_part (w := w) hfl hc.2 xs o ds hrx a1
                    obtain ⟨vy, hpy, hiy⟩ := isOf_part (w := w) hfl hc.2 ys o es hry b1
                    have hq := eqIn_ok d f.type l1 n d'' w vx vy _ _ c1 hfl (hall f (List.mem_cons_self ..)) (by omega) hix hiy a1 b1 e1
                    have hih := ih r (o + l1.length) (ds.drop l1.length) (es.drop l1.length) c2 w (fun f hf => hall f (List.mem_cons_of_mem _ hf)) hfr (by rw [← hc.2]; exact hof)
                      (by rw [← List.drop_drop]; exact hrx.drop _) (by rw [← List.drop_drop]; exact hry.drop _) a2 b2 e2
                    simp only [Op.eqFields, hfo, if_pos hc.1, Sem.run_bind, hpx, hpy, hq, Result.andThen_ok]
                    cases c1
                    · rfl
                    · simpa using hih
                  · cases hf
                · cases hf
            exact key fa.toList l 0 ds es b w ho2 hl ho1 (by simpa using hrx) (by simpa using hry) k1 k2 hb
    · rename_i cnt e hu
      split at hl
      · rename_i l1 hle
        split at hl
        · rename_i hc
          cases hl
          have ha := isAgg_of hu
          simp only [dAgg] at ha
          have hoe : ∃ d'', offsAll P d'' e = true := by
            cases d' with
            | zero => simp [offsAll] at ho
            | succ d' => simp only [offsAll, hu] at ho; exact ⟨d', ho⟩
          obtain ⟨d'', hoe⟩ := hoe
          cases hx with
          | one ha' _ => have := ha' w; rw [ha w] at this; cases this
          | @agg xs _ _ hrx =>
            cases hy with
            | one ha' _ => have := ha' w; rw [ha w] at this; cases this
            | @agg ys _ _ hry =>
              have hsz : ∀ w : World, (sizeOf e).run P w = .ok l1.length w := by
                intro w
                have hue : ∃ u, P.underlying e = some u := by
                  cases d with
                  | zero => simp [lfs] at hle
                  | succ d =>
                    cases hu' : P.underlying e with
                    | none => simp [lfs, hu'] at hle
                    | some u => exact ⟨u, rfl⟩
                obtain ⟨u, hue⟩ := hue
                cases hi : P.info? e with
                | none => simp [Program.underlying, hi] at hue
                | some i =>
                  have : i.size = l1.length := by rw [← hc]; simp [Program.cellsOf, hi]
                  simp [sizeOf, typeInfo, hi, this]
              have key : ∀ (k j : Nat) (ds es : List D) (b : Bool) (w : World), ReadsL m (xs.toList.drop (j * l1.length)) ds → ReadsL m (ys.toList.drop (j * l1.length)) es →
                  okK (List.replicate k l1).flatten ds = true → okK (List.replicate k l1).flatten es = true → eqCells ds es = some b →
                  (do for i in List.range' j k do
                        if !(← Op.equalIn n e (← part e xs (i * l1.length)) (← part e ys (i * l1.length))) then return false
                      pure true : Sem Bool).run P w = .ok b w := by
                intro k
                induction k with
                | zero =>
                  intro j ds es b w _ _ k1 k2 hb
                  have e1 := okK_len k1; have e2 := okK_len k2
                  have : ds = [] := List.eq_nil_of_length_eq_zero (by simpa using e1.symm)
                  have : es = [] := List.eq_nil_of_length_eq_zero (by simpa using e2.symm)
                  subst ds es
                  simp only [eqCells, Option.some.injEq] at hb
                  subst hb
                  rfl
                | succ k ih =>
                  intro j ds es b w hrx hry k1 k2 hb
                  rw [List.replicate_succ, List.flatten_cons] at k1 k2
                  obtain ⟨a1, a2⟩ := okK_cut l1 _ k1
                  obtain ⟨b1, b2⟩ := okK_cut l1 _ k2
                  obtain ⟨c1, c2, e1, e2, rfl⟩ := eqCells_cut l1.length hb
                  obtain ⟨vx, hpx, hix⟩ := isOf_part (w := w) hle hc xs _ ds hrx a1
                  obtain ⟨vy, hpy, hiy⟩ := isOf_part (w := w) hle hc ys _ es hry b1
                  have hq := eqIn_ok d e l1 n d'' w vx vy _ _ c1 hle hoe (by omega) hix hiy a1 b1 e1
                  have e0 : (j + 1) * l1.length = j * l1.length + l1.length := by rw [Nat.add_mul, Nat.one_mul]
                  have hih := ih (j + 1) (ds.drop l1.length) (es.drop l1.length) c2 w (by rw [e0, ← List.drop_drop]; exact hrx.drop _) (by rw [e0, ← List.drop_drop]; exact hry.drop _) a2 b2 e2
                  simp only [List.range'_succ, List.forIn_cons, Sem.run_bind, hpx, hpy, hq, Result.andThen_ok] at hih ⊢
                  cases c1
                  · rfl
                  · simpa using hih
              have := key cnt 0 ds es b w (by simpa using hrx) (by simpa using hry) k1 k2 hb
              simp only [Op.equalIn, Sem.run_bind, run_underlying hu, Result.andThen_ok, hsz] at this ⊢
              first
                | (simp only [Std.Legacy.Range.forIn_eq_forIn_range', Std.Legacy.Range.size, Nat.sub_zero, Nat.add_sub_cancel, Nat.div_one]; exact this)
                | (simp only [Std.Range.forIn_eq_forIn_range', Std.Range.size, Nat.sub_zero, Nat.add_sub_cancel, Nat.div_one]; exact this)
        · cases hl
      · cases hl
    · cases hl

end Go.Ab
