/- THE ABSTRACT LAYER, PART 1: values as trees over frozen memory, local objects, heap objects; what it means that a frame and a world are as an abstract state says. -/
import Derived.Orders
import Derived.Below
import Derived.Laws.AppendOwn
import Derived.Laws.Slices
import Derived.Laws.Strings
import Derived.KernelRfl
import Derived.Lib.Tables
import Derived.Lib.Space
import Derived.Lib.ItoaNum
set_option linter.unusedSimpArgs false
set_option linter.unusedVariables false
namespace Go.Ab
open Go

/-- Frozen memory: block, cell. -/
abbrev Mem := Nat → Nat → Option Value

/-- Data: a value of one cell as it is; a slice as a tree (sz cells an element; full: no spare capacity); an aggregate of cells. -/
inductive D where
  | v (x : Value)
  | sl (sz : Nat) (full : Bool) (xs : List D)
  | agg (cs : List D)
instance : Inhabited D := ⟨.v undef⟩

def D.cells : D → List D
  | .agg cs => cs
  | d => [d]

/-- A text's length is an int. -/
def strOk : Value → Bool
  | .string s => decide (s.data.toList.length ≤ maxLen)
  | _ => true

mutual
inductive Reads (m : Mem) : Value → D → Prop
  | v {x : Value} (h : x.oneCell' = true) (hs : strOk x = true) : Reads m x (.v x)
  | nil {sz full} : Reads m (.slice none 0 0) (.sl sz full [])
  | sl0 {a : Addr} {sz full} (hz : 0 < sz) : Reads m (.slice (some a) 0 0) (.sl sz full [])
  | sl {b off n c : Nat} {sz : Nat} {full : Bool} {xs : List D} (vals : List Value) (hz : 0 < sz) (hn : n = xs.length) (hc : n ≤ c) (hcm : c ≤ maxLen) (hf : full = true → c = n)
      (hx : ∀ x ∈ xs, x.cells.length = sz) (hm : ∀ (i : Nat) v, vals[i]? = some v → m b (off + i) = some v) (hr : ReadsL m vals (xs.flatMap D.cells)) :
      Reads m (.slice (some ⟨b, off, none⟩) n c) (.sl sz full xs)
  | agg {cs : Array Value} {ds : List D} (h : ReadsL m cs.toList ds) : Reads m (.agg cs) (.agg ds)
inductive ReadsL (m : Mem) : List Value → List D → Prop
  | nil : ReadsL m [] []
  | cons {v d vs ds} (h1 : v.oneCell' = true) (h : Reads m v d) (t : ReadsL m vs ds) : ReadsL m (v :: vs) (d :: ds)
end

/-- Values as whole arguments or results. -/
inductive ReadsA (m : Mem) : List Value → List D → Prop
  | nil : ReadsA m [] []
  | cons {v d vs ds} (h : Reads m v d) (t : ReadsA m vs ds) : ReadsA m (v :: vs) (d :: ds)

def Mem.le (m m' : Mem) : Prop := ∀ b o v, m b o = some v → m' b o = some v
theorem Mem.le.refl (m : Mem) : Mem.le m m := fun _ _ _ h => h
theorem Mem.le.trans {a b c : Mem} (h : Mem.le a b) (k : Mem.le b c) : Mem.le a c := fun _ _ _ x => k _ _ _ (h _ _ _ x)

mutual
theorem Reads.mono {m m' : Mem} (hm : Mem.le m m') : ∀ {v d}, Reads m v d → Reads m' v d
  | _, _, .v h hs => .v h hs
  | _, _, .nil => .nil
  | _, _, .sl0 hz => .sl0 hz
  | _, _, .sl vals hz hn hc hcm hf hx h hr => .sl vals hz hn hc hcm hf hx (fun i v e => hm _ _ _ (h i v e)) (ReadsL.mono hm hr)
  | _, _, .agg h => .agg (ReadsL.mono hm h)
theorem ReadsL.mono {m m' : Mem} (hm : Mem.le m m') : ∀ {vs ds}, ReadsL m vs ds → ReadsL m' vs ds
  | _, _, .nil => .nil
  | _, _, .cons h1 h t => .cons h1 (Reads.mono hm h) (ReadsL.mono hm t)
end
theorem ReadsA.mono {m m' : Mem} (hm : Mem.le m m') {vs ds} (h : ReadsA m vs ds) : ReadsA m' vs ds := by
  induction h with
  | nil => exact .nil
  | cons h _ ih => exact .cons (h.mono hm) ih

theorem ReadsL.length {m vs ds} (h : ReadsL m vs ds) : vs.length = ds.length := by
  induction ds generalizing vs with
  | nil => cases h; rfl
  | cons d ds ih => cases h with | cons _ _ t => simp [ih t]
theorem ReadsL.app {m vs ds us es} (h : ReadsL m vs ds) (k : ReadsL m us es) : ReadsL m (vs ++ us) (ds ++ es) := by
  induction ds generalizing vs with
  | nil => cases h; exact k
  | cons d ds ih => cases h with | cons h1 h t => exact .cons h1 h (ih t)
theorem ReadsL.drop {m vs ds} (h : ReadsL m vs ds) (n : Nat) : ReadsL m (vs.drop n) (ds.drop n) := by
  induction n generalizing vs ds with
  | zero => simpa using h
  | succ n ih => cases h with
    | nil => simpa using ReadsL.nil
    | cons _ _ t => simpa using ih t
theorem ReadsL.take {m vs ds} (h : ReadsL m vs ds) (n : Nat) : ReadsL m (vs.take n) (ds.take n) := by
  induction n generalizing vs ds with
  | zero => simpa using ReadsL.nil
  | succ n ih => cases h with
    | nil => simpa using ReadsL.nil
    | cons h1 h t => simpa using ReadsL.cons h1 h (ih t)
theorem ReadsL.get {m vs ds} (h : ReadsL m vs ds) (i : Nat) (d : D) (hd : ds[i]? = some d) : ∃ v, vs[i]? = some v ∧ v.oneCell' = true ∧ Reads m v d := by
  induction i generalizing vs ds with
  | zero => cases h with
    | nil => simp at hd
    | cons h1 h t => simp at hd; subst hd; exact ⟨_, rfl, h1, h⟩
  | succ n ih => cases h with
    | nil => simp at hd
    | cons _ _ t => simpa using ih t (by simpa using hd)
theorem ReadsL.one {m vs ds} (h : ReadsL m vs ds) : ∀ v ∈ vs, v.oneCell' = true := by
  induction ds generalizing vs with
  | nil => cases h; simp
  | cons d ds ih => cases h with | cons h1 _ t => intro v hv; cases hv with | head => exact h1 | tail _ hm => exact ih t v hm

/-- What a slot holds. -/
inductive V where
  | d (x : D)
  | lp (i off : Nat)
  | row (i : Nat)
  | pe (cs : List D)
  | re (i idx off : Nat)
  | agg (cs : List V)
  | tup (vs : List V)
  | g (b : Bool) (x : V)
  | any
instance : Inhabited V := ⟨.any⟩

/-- A local object: a block of cells; a row (its elements) that is the call's own. -/
inductive LO where
  | box (cs : List V)
  | row (sz : Nat) (fz : Bool) (xs : List D)

/-- The first entry under a key. -/
def lk {α : Type} (k : Nat) : List (Nat × α) → Option α
  | [] => none
  | (j, x) :: r => if j = k then some x else lk k r
@[simp] theorem lk_nil {α : Type} (k : Nat) : lk k ([] : List (Nat × α)) = none := rfl
theorem lk_cons {α : Type} (k j : Nat) (x : α) (r : List (Nat × α)) : lk k ((j, x) :: r) = if j = k then some x else lk k r := rfl

/-- A heap object that others know: its cells. -/
inductive HO where
  | cells (cs : List D)
  | map (es : List (D × D))
  | iter (l : List UInt8) (pos : Nat)
abbrev Hp := Nat → Option HO

structure St where
  env : List (Nat × V)
  L : List (Nat × LO)
  H : Hp
  /-- What calls in a region that draws its order are said to answer, by their slots. -/
  O : List (Nat × List D) := []
  /-- The slots whose new objects are heap objects. -/
  X : List Nat := []
  /-- May branches meet again in one state? -/
  J : Bool := false

/-- What stands behind an abstract state: frozen memory, the blocks of the local objects, the rows' slice values, the blocks of the heap objects. -/
structure Cx where
  m : Mem
  bk : Nat → Option Nat
  lv : Nat → Value
  F : Nat → Prop

mutual
inductive CV (c : Cx) (L : List (Nat × LO)) : Value → V → Prop
  | d {v x} (h : Reads c.m v x) : CV c L v (.d x)
  | lp {i off b} (hl : (lk i L).isSome = true) (h : c.bk i = some b) : CV c L (.pointer (some ⟨b, off, none⟩)) (.lp i off)
  | row {i sz fz xs} (hl : lk i L = some (.row sz fz xs)) : CV c L (c.lv i) (.row i)
  | pe {b o cs} (vals : List Value) (hm : ∀ (i : Nat) v, vals[i]? = some v → c.m b (o + i) = some v) (hr : ReadsL c.m vals cs) : CV c L (.pointer (some ⟨b, o, none⟩)) (.pe cs)
  | re {i idx off sz fz xs b} (hl : lk i L = some (.row sz fz xs)) (hi : idx < xs.length) (h : c.bk i = some b) : CV c L (.pointer (some ⟨b, idx * sz + off, none⟩)) (.re i idx off)
  | agg {cs : Array Value} {ds} (h : CVL c L cs.toList ds) : CV c L (.agg cs) (.agg ds)
  | tup {vs : Array Value} {ds} (h : CVT c L vs.toList ds) : CV c L (.tuple vs) (.tup ds)
  | g {v b x} (h : b = true → CV c L v x) (hu : b = false → v = undef) : CV c L v (.g b x)
  | any {v} : CV c L v .any
inductive CVL (c : Cx) (L : List (Nat × LO)) : List Value → List V → Prop
  | nil : CVL c L [] []
  | cons {v d vs ds} (h1 : v.oneCell' = true) (h : CV c L v d) (t : CVL c L vs ds) : CVL c L (v :: vs) (d :: ds)
inductive CVT (c : Cx) (L : List (Nat × LO)) : List Value → List V → Prop
  | nil : CVT c L [] []
  | cons {v d vs ds} (h : CV c L v d) (t : CVT c L vs ds) : CVT c L (v :: vs) (d :: ds)
end

/-- The local objects' keys and kinds stay (rows as they are); what they hold may change. -/
structure Cx.le (c c' : Cx) (L L' : List (Nat × LO)) : Prop where
  m : Mem.le c.m c'.m
  some : ∀ i, (lk i L).isSome = true → (lk i L').isSome = true
  bk : ∀ i b, (lk i L).isSome = true → c.bk i = .some b → c'.bk i = .some b
  row : ∀ i sz fz xs, lk i L = .some (.row sz fz xs) → c'.lv i = c.lv i ∧ ∃ fz' xs', xs'.length = xs.length ∧ lk i L' = .some (.row sz fz' xs')

mutual
theorem CV.mono {c c' L L'} (h : Cx.le c c' L L') : ∀ {v x}, CV c L v x → CV c' L' v x
  | _, _, .d r => .d (r.mono h.m)
  | _, _, .lp hl hb => .lp (h.some _ hl) (h.bk _ _ hl hb)
  | _, _, .row hl => by
    obtain ⟨e, fz, xs, _, hl'⟩ := h.row _ _ _ _ hl
    rw [← e]; exact .row hl'
  | _, _, .re hl hi hb => by
    obtain ⟨e, fz, xs, hn, hl'⟩ := h.row _ _ _ _ hl
    exact .re hl' (by omega) (h.bk _ _ (by simp [hl]) hb)
  | _, _, .pe vals hm hr => .pe vals (fun i v e => h.m _ _ _ (hm i v e)) (hr.mono h.m)
  | _, _, .agg r => .agg (CVL.mono h r)
  | _, _, .tup r => .tup (CVT.mono h r)
  | _, _, .g r u => .g (fun e => CV.mono h (r e)) u
  | _, _, .any => .any
theorem CVL.mono {c c' L L'} (h : Cx.le c c' L L') : ∀ {vs xs}, CVL c L vs xs → CVL c' L' vs xs
  | _, _, .nil => .nil
  | _, _, .cons h1 r t => .cons h1 (CV.mono h r) (CVL.mono h t)
theorem CVT.mono {c c' L L'} (h : Cx.le c c' L L') : ∀ {vs xs}, CVT c L vs xs → CVT c' L' vs xs
  | _, _, .nil => .nil
  | _, _, .cons r t => .cons (CV.mono h r) (CVT.mono h t)
end
theorem Cx.le.refl (c : Cx) (L) : Cx.le c c L L := ⟨.refl _, fun _ h => h, fun _ _ _ h => h, fun _ _ _ _ h => ⟨rfl, _, _, rfl, h⟩⟩
theorem Cx.le.trans {a b c : Cx} {L L' L''} (h : Cx.le a b L L') (k : Cx.le b c L' L'') : Cx.le a c L L'' :=
  ⟨h.m.trans k.m, fun i x => k.some _ (h.some i x), fun i b x y => k.bk _ _ (h.some i x) (h.bk i b x y), fun i sz fz xs x => by
    obtain ⟨e, fz', xs', n, y⟩ := h.row i sz fz xs x
    obtain ⟨e', fz'', xs'', n', z⟩ := k.row i _ _ _ y
    exact ⟨e'.trans e, fz'', xs'', n'.trans n, z⟩⟩

theorem CVL.length {c L vs ds} (h : CVL c L vs ds) : vs.length = ds.length := by
  induction ds generalizing vs with
  | nil => cases h; rfl
  | cons d ds ih => cases h with | cons _ _ t => simp [ih t]
theorem CVL.one {c L vs ds} (h : CVL c L vs ds) : ∀ v ∈ vs, v.oneCell' = true := by
  induction ds generalizing vs with
  | nil => cases h; simp
  | cons d ds ih => cases h with | cons h1 _ t => intro v hv; cases hv with | head => exact h1 | tail _ hm => exact ih t v hm
theorem CVL.drop {c L vs ds} (h : CVL c L vs ds) (n : Nat) : CVL c L (vs.drop n) (ds.drop n) := by
  induction n generalizing vs ds with
  | zero => simpa using h
  | succ n ih => cases h with
    | nil => simpa using CVL.nil
    | cons _ _ t => simpa using ih t
theorem CVL.take {c L vs ds} (h : CVL c L vs ds) (n : Nat) : CVL c L (vs.take n) (ds.take n) := by
  induction n generalizing vs ds with
  | zero => simpa using CVL.nil
  | succ n ih => cases h with
    | nil => simpa using CVL.nil
    | cons h1 h t => simpa using CVL.cons h1 h (ih t)
theorem CVL.app {c L vs ds us es} (h : CVL c L vs ds) (k : CVL c L us es) : CVL c L (vs ++ us) (ds ++ es) := by
  induction ds generalizing vs with
  | nil => cases h; exact k
  | cons d ds ih => cases h with | cons h1 h t => exact .cons h1 h (ih t)
theorem CVL.get {c L vs ds} (h : CVL c L vs ds) (i : Nat) (d : V) (hd : ds[i]? = some d) : ∃ v, vs[i]? = some v ∧ v.oneCell' = true ∧ CV c L v d := by
  induction i generalizing vs ds with
  | zero => cases h with
    | nil => simp at hd
    | cons h1 h t => simp at hd; subst hd; exact ⟨_, rfl, h1, h⟩
  | succ n ih => cases h with
    | nil => simp at hd
    | cons _ _ t => simpa using ih t (by simpa using hd)
theorem CVT.get {c L vs ds} (h : CVT c L vs ds) (i : Nat) (d : V) (hd : ds[i]? = some d) : ∃ v, vs[i]? = some v ∧ CV c L v d := by
  induction i generalizing vs ds with
  | zero => cases h with
    | nil => simp at hd
    | cons h t => simp at hd; subst hd; exact ⟨_, rfl, h⟩
  | succ n ih => cases h with
    | nil => simp at hd
    | cons _ t => simpa using ih t (by simpa using hd)
theorem CVL.ofReads {c L vs ds} (h : ReadsL c.m vs ds) : CVL c L vs (ds.map V.d) := by
  induction ds generalizing vs with
  | nil => cases h; exact .nil
  | cons d ds ih => cases h with | cons h1 h t => exact .cons h1 (.d h) (ih t)

/-- A local object lies as it is told. -/
inductive LOk (c : Cx) (L : List (Nat × LO)) (w : World) (i : Nat) : LO → Prop
  | box {cs b arr ty} (hb : c.bk i = some b) (hh : w.heap[b]? = some (.cells arr ty (0, 0))) (hm : ∀ j, c.m b j = none) (hv : CVL c L arr.toList cs) : LOk c L w i (.box cs)
  | nil {sz fz} (hv : c.lv i = .slice none 0 0) (hb : c.bk i = none) : LOk c L w i (.row sz fz [])
  | row {sz fz xs b cap cur ty} (hz : 0 < sz) (hv : c.lv i = .slice (some ⟨b, 0, none⟩) xs.length cap) (hb : c.bk i = some b) (hh : w.heap[b]? = some (.cells cur ty (0, 0)))
      (hc : xs.length ≤ cap) (hcm : cap ≤ maxLen) (hs : cur.size = cap * sz) (hx : ∀ x ∈ xs, x.cells.length = sz)
      (hr : ReadsL c.m (cur.toList.take (xs.length * sz)) (xs.flatMap D.cells)) (hm : ∀ j, c.m b j = if fz = true ∧ j < xs.length * sz then cur[j]? else none) :
      LOk c L w i (.row sz fz xs)

/-- A heap object lies as it is told. -/
inductive HOk (m : Mem) (w : World) (k : Nat) : HO → Prop
  | cells {cs arr ty} (hh : w.heap[k]? = some (.cells arr ty (0, 0))) (hv : ReadsL m arr.toList cs) : HOk m w k (.cells cs)
  | map {es} {entries : Array MapEntry} {clock} (hh : w.heap[k]? = some (.map entries clock)) (hk : ReadsA m (entries.toList.map (·.key)) (es.map (·.1))) (hv : ReadsA m (entries.toList.map (·.val)) (es.map (·.2))) : HOk m w k (.map es)
  | iter {l pos} (hh : w.heap[k]? = some (.stringIter ⟨l.toArray⟩ pos)) (hl : l.length ≤ maxLen) : HOk m w k (.iter l pos)
structure HpOk (m : Mem) (w : World) (F : Nat → Prop) (H : Hp) : Prop where
  at_ : ∀ k o, H k = some o → HOk m w k o
  foot : ∀ k, F k ↔ (H k).isSome = true
  free : ∀ k, F k → ∀ j, m k j = none

def Agrees (m : Mem) (w : World) : Prop := ∀ b o v, m b o = some v → w.cell? ⟨b, o, none⟩ = some v

/-- From one world to a later one: all blocks that were there and are not in F are as they were. -/
structure Later (F : Nat → Prop) (w w' : World) : Prop where
  os : w'.os = w.os
  tape : w'.tape = w.tape
  output : w'.output = w.output
  size : w.heap.size ≤ w'.heap.size
  block : ∀ k, k < w.heap.size → ¬ F k → w'.heap[k]? = w.heap[k]?
theorem Later.refl (F : Nat → Prop) (w : World) : Later F w w := ⟨rfl, rfl, rfl, Nat.le_refl _, fun _ _ _ => rfl⟩

/-- The library's tables that walks lean on, by name. -/
def globTabs : List (String × IntKind × List Int) :=
  [("strings.asciiSpace", .u8, Lib.asciiSpaceTab), ("internal/strconv.uint64pow10", .u64, Lib.pow10Tab)]
/-- The library's errors that walks lean on, by name. -/
def globVars : List String := ["strconv.ErrSyntax", "strconv.ErrRange"]
/-- The world holds the library's tables, in blocks that are nobody's. -/
structure Glob (P : Program) (F : Nat → Prop) (w : World) : Prop where
  maxLen : ∀ g, P.globalNamed "internal/bytealg.MaxLen" = some g → ¬ F g ∧ g < w.heap.size ∧ ∃ k, w.cell? ⟨g, 0, none⟩ = some (.int .i64 k)
  tab : ∀ x ∈ globTabs, ∀ g, P.globalNamed x.1 = some g → ¬ F g ∧ g < w.heap.size ∧ ∃ t fr, w.heap[g]? = some (.cells (x.2.2.map fun z => Value.int x.2.1 z).toArray t fr)
  vars : ∀ x ∈ globVars, ∀ g, P.globalNamed x = some g → ¬ F g ∧ g < w.heap.size ∧ ∃ tp p t fr, w.heap[g]? = some (.cells #[.iface tp p] t fr)

/-- The walk's constants: the program, the slots, the world, the frozen memory and the heap objects' blocks when the call began. -/
structure Gx where
  P : Program
  n : Nat
  w0 : World
  m0 : Mem
  F0 : Nat → Prop
  glob : Glob P F0 w0

structure Holds (g : Gx) (st : St) (a : Act) (w : World) (c : Cx) : Prop where
  defers : a.defers = []
  slots : a.tmps.size = g.n
  env : ∀ k x, lk k st.env = some x → ∃ v, a.tmps[k]? = some v ∧ CV c st.L v x
  loc : ∀ i o, lk i st.L = some o → LOk c st.L w i o
  heap : HpOk c.m w c.F st.H
  agr : Agrees c.m w
  mono : Mem.le g.m0 c.m
  later : Later g.F0 g.w0 w
  inj : ∀ i j b, (lk i st.L).isSome = true → (lk j st.L).isSome = true → c.bk i = some b → c.bk j = some b → i = j
  fresh : ∀ i b, (lk i st.L).isSome = true → c.bk i = some b → g.w0.heap.size ≤ b ∧ ¬ c.F b
  foot : ∀ b, c.F b → g.F0 b ∨ g.w0.heap.size ≤ b
  old : ∀ b, b < g.w0.heap.size → ¬ g.F0 b → c.m b = g.m0 b
  inw : ∀ b, c.F b → b < w.heap.size

theorem Glob.later {P : Program} {F F' : Nat → Prop} {w w' : World} (h : Glob P F w) (hl : Later F w w') (hf : ∀ b, F' b → F b ∨ w.heap.size ≤ b) : Glob P F' w' := by
  have key : ∀ g, ¬ F g → g < w.heap.size → ¬ F' g ∧ g < w'.heap.size ∧ w'.heap[g]? = w.heap[g]? := fun g h1 h2 =>
    ⟨fun h3 => (hf g h3).elim h1 (fun h4 => by omega), Nat.lt_of_lt_of_le h2 hl.size, hl.block g h2 h1⟩
  refine ⟨fun g hg => ?_, fun x hx g hg => ?_, fun x hx g hg => ?_⟩
  · obtain ⟨h1, h2, k, hk⟩ := h.maxLen g hg
    obtain ⟨k1, k2, k3⟩ := key g h1 h2
    exact ⟨k1, k2, k, by rw [World.cell?_of_block (a := ⟨g, 0, none⟩) k3]; exact hk⟩
  · obtain ⟨h1, h2, t, fr, hk⟩ := h.tab x hx g hg
    obtain ⟨k1, k2, k3⟩ := key g h1 h2
    exact ⟨k1, k2, t, fr, k3.trans hk⟩
  · obtain ⟨h1, h2, tp, p, t, fr, hk⟩ := h.vars x hx g hg
    obtain ⟨k1, k2, k3⟩ := key g h1 h2
    exact ⟨k1, k2, tp, p, t, fr, k3.trans hk⟩
theorem Holds.glob {g : Gx} {st : St} {a : Act} {w : World} {c : Cx} (h : Holds g st a w c) : Glob g.P c.F w := g.glob.later h.later h.foot

/-- From the abstract state on, a piece of code comes to abstract states of which Q holds. -/
def AEv (g : Gx) (code : Code) (st : St) (Q : Exit → St → Prop) : Prop :=
  ∀ a w c, Holds g st a w c → code.wp g.P (fun e a' w' => ∃ st' c', Holds g st' a' w' c' ∧ Q e st') a w

end Go.Ab
