/- THE ABSTRACT LAYER, PART 3: operations that only compute, read, or make new frozen memory. -/
import Derived.Test.YtjnkfcbbgfgmhaaDoorAbOps
set_option linter.unusedSimpArgs false
set_option linter.unusedVariables false
namespace Go.Ab
open Go

def allD : List V → Option (List D)
  | [] => some []
  | .d x :: r => (allD r).map (x :: ·)
  | _ :: _ => none
/-- An aggregate of cells: data where all cells are. -/
def mkA (cs : List V) : V :=
  match allD cs with
  | some ds => .d (.agg ds)
  | none => .agg cs
def selD (ag : Bool) (n : Nat) (cs : List D) : Option D :=
  if ag = true then (if n ≤ cs.length then some (.agg (cs.take n)) else none) else cs.head?
def selV (ag : Bool) (n : Nat) (cs : List V) : Option V :=
  if ag = true then (if n ≤ cs.length then some (mkA (cs.take n)) else none) else cs.head?
def V.cellsOf : V → Option (List V)
  | .d (.agg ds) => some (ds.map V.d)
  | .agg cs => some cs
  | .tup _ => none
  | .g _ _ => none
  | .any => none
  | x => some [x]

theorem allD_map (ds : List D) : allD (ds.map V.d) = some ds := by
  induction ds with
  | nil => rfl
  | cons d r ih => simp [allD, ih]
theorem allD_some {cs : List V} {ds} (h : allD cs = some ds) : cs = ds.map V.d := by
  induction cs generalizing ds with
  | nil => simp [allD] at h; subst h; rfl
  | cons x r ih =>
    cases x with
    | d y =>
      simp only [allD] at h
      cases hr : allD r with
      | none => simp [hr] at h
      | some es => simp [hr] at h; subst h; simp [ih hr]
    | _ => simp [allD] at h
theorem CVL.toReads {c L vs} : ∀ {ds : List D}, CVL c L vs (ds.map V.d) → ReadsL c.m vs ds := by
  intro ds
  induction ds generalizing vs with
  | nil => intro h; cases h; exact .nil
  | cons d r ih =>
    intro h
    cases h with
    | cons h1 h t => cases h with | d h => exact .cons h1 h (ih t)
theorem mkA_ok {c L} {vs : Array Value} {cs} (h : CVL c L vs.toList cs) : CV c L (.agg vs) (mkA cs) := by
  unfold mkA
  split
  · rename_i ds hd
    have := allD_some hd
    subst this
    exact .d (.agg h.toReads)
  · exact .agg h

def qlen (P : Program) (st : St) (t : TypeId) (x : V) : Q :=
  match tk P t, x with
  | .string, .d (.v (.string s)) => ⟨True, (sb s).length ≤ maxLen, .d (.v (.int .i64 (sb s).length))⟩
  | .slice _ _ _, .d (.sl _ _ xs) => ⟨True, xs.length ≤ maxLen, .d (.v (.int .i64 xs.length))⟩
  | .slice _ _ _, .row i =>
    match lk i st.L with
    | some (.row _ _ xs) => ⟨True, xs.length ≤ maxLen, .d (.v (.int .i64 xs.length))⟩
    | _ => .no
  | .slice _ _ _, .d (.v (.slice _ n _)) => ⟨True, True, .d (.v (.int .i64 n))⟩
  | .map _ _, .d (.v (.map (some b))) =>
    match st.H b with
    | some (.map es) => ⟨True, True, .d (.v (.int .i64 es.length))⟩
    | _ => .no
  | _, _ => .no
def qidx (P : Program) (t : TypeId) (x i : V) : Q :=
  match tk P t, x, i with
  | .string, .d (.v (.string s)), .d (.v (.int _ i)) => ⟨0 ≤ i ∧ i < (sb s).length, True, .d (.v (.int .u8 ((sb s).getD i.toNat 0).toNat))⟩
  | .array n _ sz ag, .d (.agg cs), .d (.v (.int _ i)) =>
    match selD ag sz (cs.drop (i.toNat * sz)) with
    | some d => ⟨0 ≤ i ∧ i < n, True, .d d⟩
    | none => .no
  | _, _, _ => .no
def qidxA (P : Program) (st : St) (t : TypeId) (x i : V) : Q :=
  match tk P t, x, i with
  | .slice _ sz _, .d (.sl sz' _ xs), .d (.v (.int _ i)) => ⟨sz = sz' ∧ 0 ≤ i ∧ i < xs.length, True, .pe (xs.getD i.toNat default).cells⟩
  | .slice _ sz _, .row r, .d (.v (.int _ i)) =>
    match lk r st.L with
    | some (.row sz' _ xs) => ⟨sz = sz' ∧ 0 ≤ i ∧ i < xs.length, True, .re r i.toNat 0⟩
    | _ => .no
  | .slice _ sz _, .d (.v (.slice (some ⟨b, o, none⟩) n _)), .d (.v (.int _ i)) => ⟨0 ≤ i ∧ i < n, True, .d (.v (.pointer (some ⟨b, o + i.toNat * sz, none⟩)))⟩
  | .array n _ sz _, .d (.v (.pointer (some ⟨b, o, none⟩))), .d (.v (.int _ i)) => ⟨0 ≤ i ∧ i < n, True, .d (.v (.pointer (some ⟨b, o + i.toNat * sz, none⟩)))⟩
  | .array n _ sz _, .lp r o, .d (.v (.int _ i)) => ⟨0 ≤ i ∧ i < n, True, .lp r (o + i.toNat * sz)⟩
  | .array n _ sz _, .pe cs, .d (.v (.int _ i)) => ⟨0 ≤ i ∧ i < n, True, .pe (cs.drop (i.toNat * sz))⟩
  | _, _, _ => .no
def fieldAt (P : Program) (t : TypeId) (f : Nat) : Option (Nat × Nat × Bool) :=
  match tk P t with
  | .struct fs => fs[f]?
  | _ => none
def qfa (P : Program) (t : TypeId) (x : V) (f : Nat) : Q :=
  match fieldAt P t f, x with
  | some (o, n, _), .lp r p => ⟨n ≠ 0, True, .lp r (p + o)⟩
  | some (o, n, _), .pe cs => ⟨n ≠ 0, True, .pe (cs.drop o)⟩
  | some (o, n, _), .re r i p => ⟨n ≠ 0, True, .re r i (p + o)⟩
  | some (o, n, _), .d (.v (.pointer (some ⟨b, p, none⟩))) => ⟨n ≠ 0, True, .d (.v (.pointer (some ⟨b, p + o, none⟩)))⟩
  | _, _ => .no
def qf (P : Program) (t : TypeId) (x : V) (f : Nat) : Q :=
  match fieldAt P t f, x with
  | some (o, n, ag), .d (.agg cs) => match selD ag n (cs.drop o) with | some d => ⟨n ≠ 0, True, .d d⟩ | none => .no
  | some (o, n, ag), .agg cs => match selV ag n (cs.drop o) with | some d => ⟨n ≠ 0, True, d⟩ | none => .no
  | _, _ => .no
def qld (P : Program) (st : St) (t : TypeId) (x : V) : Q :=
  match ldk P t, x with
  | some (ag, n), .pe cs => match selD ag n cs with | some d => .ok (.d d) | none => .no
  | some (ag, n), .lp r o =>
    match lk r st.L with
    | some (.box cs) => match selV ag n (cs.drop o) with | some d => .ok d | none => .no
    | _ => .no
  | some (ag, n), .re r i o =>
    match lk r st.L with
    | some (.row _ _ xs) => match selD ag n ((xs.getD i default).cells.drop o) with | some d => .ok (.d d) | none => .no
    | _ => .no
  | some (ag, n), .d (.v (.pointer (some ⟨b, o, none⟩))) =>
    match st.H b with
    | some (.cells cs) => match selD ag n (cs.drop o) with | some d => .ok (.d d) | none => .no
    | _ => .no
  | _, _ => .no
def qext (x : V) (i : Nat) : Q :=
  match x with
  | .tup vs => match vs[i]? with | some v => .ok v | none => .no
  | _ => .no
def qpick (c ra rb : V) : Q :=
  match c, ra, rb with
  | .d (.v (.bool t)), .d (.v (.bool x)), .d (.v (.bool y)) => .ok (.d (.v (.bool (bif t then x else y))))
  | .d (.v (.bool t)), .g b1 (.d (.v (.bool x))), .d (.v (.bool y)) => ⟨t = true → b1 = true, True, .d (.v (.bool (bif t then x else y)))⟩
  | .d (.v (.bool t)), .d (.v (.bool x)), .g b2 (.d (.v (.bool y))) => ⟨t = false → b2 = true, True, .d (.v (.bool (bif t then x else y)))⟩
  | .d (.v (.bool t)), .g _ .any, .d (.v (.bool y)) => ⟨t = false, True, .d (.v (.bool y))⟩
  | .d (.v (.bool t)), .d (.v (.bool x)), .g _ .any => ⟨t = true, True, .d (.v (.bool x))⟩
  | _, _, _ => .no
def zeroD (ag : Bool) (zs : List D) : D := if ag = true then .agg zs else zs.headD default
/-- Bytes. -/
def bytesD : List D → Option (List Int)
  | [] => some []
  | .v (.int .u8 n) :: r => (bytesD r).map (n :: ·)
  | _ => none
/-- Are scalars the same? -/
def scalEq : D → D → Option Bool
  | .v (.int k a), .v (.int k' b) => if k = k' then some (decide (a = b)) else none
  | .v (.string a), .v (.string b) => some (decide (sb a = sb b))
  | .v (.bool a), .v (.bool b) => some (a == b)
  | _, _ => none
def scalK (t : TK) (d : D) : Bool :=
  match t, d with
  | .int _, .v (.int _ _) => true
  | .string, .v (.string _) => true
  | .bool, .v (.bool _) => true
  | _, _ => false
/-- The entry of a key; none: it can't be told. -/
def keyIn (k : D) : List (D × D) → Option (Option (Nat × D))
  | [] => some none
  | (k', x) :: r =>
    match scalEq k k' with
    | some true => some (some (0, x))
    | some false => (keyIn k r).map fun o => o.map fun p => (p.1 + 1, p.2)
    | none => none
def setKey (k x : D) (es : List (D × D)) : Option (Nat × D) → List (D × D)
  | some (i, _) => es.set i (k, x)
  | none => es ++ [(k, x)]
def qlk (P : Program) (st : St) (t : TypeId) (x i : V) (ok : Bool) : Q :=
  match tk P t, x, i with
  | .map kt et, .d (.v (.map (some b))), .d key =>
    match st.H b, tzv P et with
    | some (.map es), some z =>
      match keyIn key es with
      | some (some (_, y)) => ⟨scalK (tk P kt) key = true, True, if ok = true then .tup [.d y, .d (.v (.bool true))] else .d y⟩
      | some none => ⟨scalK (tk P kt) key = true, True, if ok = true then .tup [.d z, .d (.v (.bool false))] else .d z⟩
      | none => .no
    | _, _ => .no
  | _, _, _ => .no
def qconv (P : Program) (s d : TypeId) (x : V) : Q :=
  match tk P s, tk P d, x with
  | .int _, .int k, .d (.v (.int _ n)) => .ok (.d (.v (.int k (k.wrap n))))
  | .string, .string, .d (.v (.string s)) => .ok (.d (.v (.string s)))
  | .slice e _ _, .string, .d (.sl sz _ xs) =>
    match bytesD xs with
    | some ns => ⟨tk P e = .int .u8 ∧ sz = 1, True, .d (.v (.string ⟨(ns.map fun n => UInt8.ofNat n.toNat).toArray⟩))⟩
    | none => .no
  | _, _, _ => .no
def optI : Option V → Option (Option Int)
  | none => some none
  | some (.d (.v (.int _ i))) => some (some i)
  | _ => none
def qsl (P : Program) (t : TypeId) (x : V) (lo hi mx : Option V) : Q :=
  match tk P t, x, optI lo, optI hi, optI mx with
  | .string, .d (.v (.string s)), some none, some none, some none => .ok (.d (.v (.string s)))
  | .string, .d (.v (.string s)), some (some l), some none, some none => ⟨0 ≤ l ∧ l ≤ (sb s).length, True, .d (.v (.string ⟨((sb s).drop l.toNat).toArray⟩))⟩
  | .string, .d (.v (.string s)), some none, some (some h), some none => ⟨0 ≤ h ∧ h ≤ (sb s).length, True, .d (.v (.string ⟨((sb s).take h.toNat).toArray⟩))⟩
  | .string, .d (.v (.string s)), some (some l), some (some h), some none => ⟨0 ≤ l ∧ l ≤ h ∧ h ≤ (sb s).length, True, .d (.v (.string ⟨(((sb s).drop l.toNat).take (h.toNat - l.toNat)).toArray⟩))⟩
  | .slice _ n _, .d (.sl sz f xs), some none, some none, some none => ⟨n = sz, True, .d (.sl sz f xs)⟩
  | .slice _ n _, .d (.sl sz f xs), some (some l), some none, some none => ⟨n = sz ∧ 0 ≤ l ∧ l ≤ xs.length, True, .d (.sl sz f (xs.drop l.toNat))⟩
  | .slice _ n _, .d (.sl sz _ xs), some none, some (some h), some none => ⟨n = sz ∧ 0 ≤ h ∧ h ≤ xs.length, True, .d (.sl sz false (xs.take h.toNat))⟩
  | .slice _ n _, .d (.sl sz _ xs), some (some l), some (some h), some none => ⟨n = sz ∧ 0 ≤ l ∧ l ≤ h ∧ h ≤ xs.length, True, .d (.sl sz false ((xs.drop l.toNat).take (h.toNat - l.toNat)))⟩
  | .slice _ n _, .d (.sl sz _ xs), some none, some (some h), some (some m) => ⟨n = sz ∧ 0 ≤ h ∧ h = m ∧ h ≤ xs.length, True, .d (.sl sz true (xs.take h.toNat))⟩
  | _, _, _, _, _ => .no

theorem add_off (b o n : Nat) : (⟨b, o, none⟩ : Addr).add n = ⟨b, o + n, none⟩ := by unfold Addr.add; split <;> simp_all

/-- Reading cells that are known. -/
theorem run_loadVar_sel {P : Program} {w : World} {t : TypeId} {ag n} (hk : ldk P t = some (ag, n)) (b o : Nat) (vals : List Value)
    (hc : ∀ (i : Nat) v, vals[i]? = some v → w.cell? ⟨b, o + i, none⟩ = some v) :
    (ag = true → n ≤ vals.length → (loadVar t ⟨b, o, none⟩).run P w = .ok (.agg (vals.take n).toArray) w) ∧
    (ag = false → ∀ v, vals[0]? = some v → (loadVar t ⟨b, o, none⟩).run P w = .ok v w) := by
  obtain ⟨ha, hs⟩ := ldk_agg hk w
  constructor
  · intro e hn
    subst e
    have hl := run_loadCells_list (P := P) w ⟨b, o, none⟩ (vals.take n) (fun j v hv => by
      rw [add_off]
      rw [List.getElem?_take] at hv
      split at hv
      · exact hc j v hv
      · cases hv)
    rw [List.length_take, Nat.min_eq_left hn] at hl
    simp only [loadVar, Sem.run_bind, ha, hs, Result.andThen_ok, if_true, hl, Sem.run_pure]
  · intro e v hv
    subst e
    have := hc 0 v hv
    rw [Nat.add_zero] at this
    simp [loadVar, Sem.run_bind, ha, Result.andThen_ok, run_load, this]

theorem selD_ok {P : Program} {w : World} {m : Mem} {t : TypeId} {ag n} (hk : ldk P t = some (ag, n)) (b o : Nat) (vals : List Value) (cs : List D) (hr : ReadsL m vals cs)
    (hc : ∀ (i : Nat) v, vals[i]? = some v → w.cell? ⟨b, o + i, none⟩ = some v) {d : D} (hd : selD ag n cs = some d) : ∃ v, (loadVar t ⟨b, o, none⟩).run P w = .ok v w ∧ Reads m v d := by
  obtain ⟨h1, h2⟩ := run_loadVar_sel hk b o vals hc
  unfold selD at hd
  split at hd
  · rename_i e
    split at hd
    · rename_i hn
      cases hd
      exact ⟨_, h1 e (by rw [hr.length]; exact hn), .agg (hr.take n)⟩
    · cases hd
  · rename_i e
    have hd' : cs[0]? = some d := by rw [← List.head?_eq_getElem?]; exact hd
    obtain ⟨v, hv, _, hv2⟩ := hr.get 0 d hd'
    exact ⟨v, h2 (by simpa using e) v hv, hv2⟩
theorem selV_ok {P : Program} {w : World} {c : Cx} {L} {t : TypeId} {ag n} (hk : ldk P t = some (ag, n)) (b o : Nat) (vals : List Value) (cs : List V) (hr : CVL c L vals cs)
    (hc : ∀ (i : Nat) v, vals[i]? = some v → w.cell? ⟨b, o + i, none⟩ = some v) {d : V} (hd : selV ag n cs = some d) : ∃ v, (loadVar t ⟨b, o, none⟩).run P w = .ok v w ∧ CV c L v d := by
  obtain ⟨h1, h2⟩ := run_loadVar_sel hk b o vals hc
  unfold selV at hd
  split at hd
  · rename_i e
    split at hd
    · rename_i hn
      cases hd
      exact ⟨_, h1 e (by rw [hr.length]; exact hn), mkA_ok (hr.take n)⟩
    · cases hd
  · rename_i e
    have hd' : cs[0]? = some d := by rw [← List.head?_eq_getElem?]; exact hd
    obtain ⟨v, hv, _, hv2⟩ := hr.get 0 d hd'
    exact ⟨v, h2 (by simpa using e) v hv, hv2⟩

/-- A part of an aggregate's cells. -/
theorem part_selD {P : Program} {w : World} {m : Mem} {t : TypeId} {ag n} (hk : ldk P t = some (ag, n)) (arr : Array Value) (off : Nat) (cs : List D) (hr : ReadsL m (arr.toList.drop off) cs)
    {d : D} (hd : selD ag n cs = some d) : ∃ v, (part t arr off).run P w = .ok v w ∧ Reads m v d := by
  obtain ⟨ha, hs⟩ := ldk_agg hk w
  unfold selD at hd
  split at hd
  · rename_i e; subst e
    split at hd
    · rename_i hn
      cases hd
      refine ⟨.agg (arr.extract off (off + n)), by simp [part, ha, hs], .agg ?_⟩
      have : (arr.extract off (off + n)).toList = (arr.toList.drop off).take n := by simp
      rw [this]; exact hr.take n
    · cases hd
  · rename_i e
    have e' : ag = false := by simpa using e
    subst e'
    have hd' : cs[0]? = some d := by rw [← List.head?_eq_getElem?]; exact hd
    obtain ⟨v, hv, _, hv2⟩ := hr.get 0 d hd'
    refine ⟨v, ?_, hv2⟩
    have : arr[off]? = some v := by simpa using hv
    simp [part, ha, this]
theorem part_selV {P : Program} {w : World} {c : Cx} {L} {t : TypeId} {ag n} (hk : ldk P t = some (ag, n)) (arr : Array Value) (off : Nat) (cs : List V) (hr : CVL c L (arr.toList.drop off) cs)
    {d : V} (hd : selV ag n cs = some d) : ∃ v, (part t arr off).run P w = .ok v w ∧ CV c L v d := by
  obtain ⟨ha, hs⟩ := ldk_agg hk w
  unfold selV at hd
  split at hd
  · rename_i e; subst e
    split at hd
    · rename_i hn
      cases hd
      refine ⟨.agg (arr.extract off (off + n)), by simp [part, ha, hs], mkA_ok ?_⟩
      have : (arr.extract off (off + n)).toList = (arr.toList.drop off).take n := by simp
      rw [this]; exact hr.take n
    · cases hd
  · rename_i e
    have e' : ag = false := by simpa using e
    subst e'
    have hd' : cs[0]? = some d := by rw [← List.head?_eq_getElem?]; exact hd
    obtain ⟨v, hv, _, hv2⟩ := hr.get 0 d hd'
    refine ⟨v, ?_, hv2⟩
    have : arr[off]? = some v := by simpa using hv
    simp [part, ha, this]

end Go.Ab
