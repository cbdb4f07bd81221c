/- THE ABSTRACT LAYER, PART 2: what an operation that only computes comes to ('qv': what must hold, what may be taken for granted, the value), and that it does. -/
import Derived.Test.YtjnkfcbbgfgmhaaDoorAbEq
import Derived.Lib.Strings
import Derived.Laws.StructEq
import Derived.Laws.Small
set_option linter.unusedSimpArgs false
set_option linter.unusedVariables false
namespace Go.Ab
open Go

/-- A type's kind, as the operations need it. -/
inductive TK where
  | bool | string | int (k : IntKind) | slice (e sz eb : Nat) | struct (fs : List (Nat × Nat × Bool)) | array (n e sz : Nat) (ag : Bool) | map (k e : Nat) | pointer (e : Nat) | iface | other

/-- An aggregate? How many cells? -/
def ldk (P : Program) (t : TypeId) : Option (Bool × Nat) :=
  match P.underlying t, P.info? t with
  | some (.struct _), some i => some (true, i.size)
  | some (.array _ _), some i => some (true, i.size)
  | some _, some i => some (false, i.size)
  | _, _ => none
def tk (P : Program) (t : TypeId) : TK :=
  match P.underlying t with
  | some .bool => .bool
  | some .string => .string
  | some (.int k) => .int k
  | some (.slice e) => match P.info? e with | some i => .slice e i.size i.bytes | none => .other
  | some (.struct fs) => if (fs.toList.all fun f => (ldk P f.type).isSome) = true then .struct (fs.toList.map fun f => (f.offset, match ldk P f.type with | some (b, n) => (n, b) | none => (0, false))) else .other
  | some (.array n e) => match ldk P e with | some (b, s) => .array n e s b | none => .other
  | some (.map k e) => .map k e
  | some (.pointer e) => .pointer e
  | some (.interface _) => .iface
  | _ => .other

/-- A cell's datum: the nil slice is the empty tree. -/
def D.ofCell : Value → D
  | .slice none 0 0 => .sl 0 true []
  | x => .v x
def V.ofV : Value → V
  | .slice none 0 0 => .d (.sl 0 true [])
  | .slice _ _ _ => .any
  | .agg cs => if (cs.toList.all fun x => x.oneCell' && strOk x) = true then .d (.agg (cs.toList.map D.ofCell)) else .any
  | .tuple _ => .any
  | .string s => if s.data.toList.length ≤ maxLen then .d (.v (.string s)) else .any
  | x => .d (.v x)
/-- A type's zero cells. -/
def tz (P : Program) (t : TypeId) : Option (List D) :=
  match (P.info? t).bind (·.zero) with
  | some z => if (z.cells.toList.all fun x => x.oneCell' && strOk x) = true then some (z.cells.toList.map D.ofCell) else none
  | none => none

/-- A type's zero value. -/
def tzv (P : Program) (t : TypeId) : Option D :=
  match (P.info? t).bind (·.zero) with
  | some (.agg cs) => if (cs.toList.all fun x => x.oneCell' && strOk x) = true then some (.agg (cs.toList.map D.ofCell)) else none
  | some (.tuple _) => none
  | some x => if strOk x = true then some (D.ofCell x) else none
  | none => none

/-- A text. -/
abbrev D.str (l : List UInt8) : D := .v (.string ⟨l.toArray⟩)
theorem mk_sb (s : ByteArray) : (⟨(sb s).toArray⟩ : ByteArray) = s := rfl

/-- What an operand is. -/
def rd (st : St) : Operand → V
  | .tmp t => (lk t st.env).getD .any
  | .const v => V.ofV v
  | .func f => .d (.v (.func (.func f) #[] #[]))
  | .global g => .d (.v (.pointer (some ⟨g, 0, none⟩)))

/-- What must hold; what may be taken for granted; the value. -/
structure Q where
  side : Prop
  gain : Prop
  val : V

/-- An operand under a guard: what was reckoned under another guard must have been reckoned. -/
def rdg (gb : Bool) (st : St) (x : Operand) : Prop × V :=
  match rd st x with
  | .g b y => (gb = true → b = true, y)
  | y => (True, y)

def Q.no : Q := ⟨False, True, .any⟩
def Q.ok (x : V) : Q := ⟨True, True, x⟩

def qint (op : BinOp) (k : IntKind) (a b : Int) : Q :=
  match op with
  | .add => .ok (.d (.v (.int k (k.wrap (a + b)))))
  | .sub => .ok (.d (.v (.int k (k.wrap (a - b)))))
  | .mul => .ok (.d (.v (.int k (k.wrap (a * b)))))
  | .quo => ⟨b ≠ 0, True, .d (.v (.int k (k.wrap (a.tdiv b))))⟩
  | .rem => ⟨b ≠ 0, True, .d (.v (.int k (a.tmod b)))⟩
  | .and => .ok (.d (.v (.int k (k.wrap (BitVec.ofInt k.bits a &&& BitVec.ofInt k.bits b).toNat))))
  | .or => .ok (.d (.v (.int k (k.wrap (BitVec.ofInt k.bits a ||| BitVec.ofInt k.bits b).toNat))))
  | .xor => .ok (.d (.v (.int k (k.wrap (BitVec.ofInt k.bits a ^^^ BitVec.ofInt k.bits b).toNat))))
  | .andNot => .ok (.d (.v (.int k (k.wrap (BitVec.ofInt k.bits a &&& ~~~ BitVec.ofInt k.bits b).toNat))))
  | .eql => .ok (.d (.v (.bool (decide (a = b)))))
  | .neq => .ok (.d (.v (.bool (!decide (a = b)))))
  | .lss => .ok (.d (.v (.bool (decide (a < b)))))
  | .leq => .ok (.d (.v (.bool (decide (a ≤ b)))))
  | .gtr => .ok (.d (.v (.bool (decide (b < a)))))
  | .geq => .ok (.d (.v (.bool (decide (b ≤ a)))))
  | _ => .no
def qshift (op : BinOp) (k : IntKind) (a b : Int) : Q :=
  match op with
  | .shl => ⟨0 ≤ b, True, .d (.v (.int k (k.wrap (a * 2 ^ min b.toNat k.bits))))⟩
  | .shr => ⟨0 ≤ b, True, .d (.v (.int k (a.fdiv (2 ^ min b.toNat k.bits))))⟩
  | _ => .no
def qstr (op : BinOp) (a b : ByteArray) : Q :=
  match op with
  | .add => ⟨(sb a).length + (sb b).length ≤ 9223372036854775807, True, .d (.v (.string ⟨(sb a ++ sb b).toArray⟩))⟩
  | .eql => .ok (.d (.v (.bool (decide (sb a = sb b)))))
  | .neq => .ok (.d (.v (.bool (!decide (sb a = sb b)))))
  | .lss => .ok (.d (.v (.bool (Op.bytesLess (sb a) (sb b)))))
  | _ => .no
def qbin (kd : TK) (lf : Option (List LK)) (op : BinOp) (x y : V) : Q :=
  match x, y with
  | .d (.v (.int k a)), .d (.v (.int k' b)) =>
    match op with
    | .shl => qshift .shl k a b
    | .shr => qshift .shr k a b
    | op => let q := qint op k a b; ⟨k = k' ∧ q.side, True, q.val⟩
  | .d (.v (.string a)), .d (.v (.string b)) => qstr op a b
  | .d (.v (.bool a)), .d (.v (.bool b)) =>
    match op with
    | .eql => ⟨kd = .bool, True, .d (.v (.bool (a == b)))⟩
    | .neq => ⟨kd = .bool, True, .d (.v (.bool (!(a == b))))⟩
    | _ => .no
  | .d (.agg as), .d (.agg bs) =>
    match lf, eqCells as bs with
    | some l, some b =>
      match op with
      | .eql => ⟨okK l as = true ∧ okK l bs = true, True, .d (.v (.bool b))⟩
      | .neq => ⟨okK l as = true ∧ okK l bs = true, True, .d (.v (.bool (!b)))⟩
      | _ => .no
    | _, _ => .no
  | _, _ => .no
/-- Is it nil? -/
def isC : Operand → Bool
  | .const _ => true
  | _ => false
def qnilEq (cb : Bool) (kd : TK) (x y : V) : Option Bool :=
  match kd, x, y with
  | .pointer _, .d (.v (.pointer a)), .d (.v (.pointer none)) => some a.isNone
  | .pointer _, .lp _ _, .d (.v (.pointer none)) => some false
  | .pointer _, .pe _, .d (.v (.pointer none)) => some false
  | .pointer _, .re _ _ _, .d (.v (.pointer none)) => some false
  | .iface, .d (.v .nilIface), .d (.v .nilIface) => if cb = true then some true else none
  | .iface, .d (.v (.iface _ _)), .d (.v .nilIface) => some false
  | .map _ _, .d (.v (.map a)), .d (.v (.map none)) => some a.isNone
  | _, _, _ => none
def qbinN (cb : Bool) (kd : TK) (lf : Option (List LK)) (op : BinOp) (x y : V) : Q :=
  match qnilEq cb kd x y with
  | some b =>
    match op with
    | .eql => .ok (.d (.v (.bool b)))
    | .neq => .ok (.d (.v (.bool (!b))))
    | _ => .no
  | none => qbin kd lf op x y
def qun (op : UnOp) (x : V) : Q :=
  match op, x with
  | .neg, .d (.v (.int k a)) => .ok (.d (.v (.int k (k.wrap (0 - a)))))
  | .not, .d (.v (.bool a)) => .ok (.d (.v (.bool (!a))))
  | _, _ => .no

theorem rd_ok {g : Gx} {st : St} {a : Act} {w : World} {c : Cx} (h : Holds g st a w c) (x : Operand) : CV c st.L (a.eval x) (rd st x) := by
  cases x with
  | tmp t =>
    simp only [rd]
    cases hl : lk t st.env with
    | none => exact .any
    | some y =>
      obtain ⟨v, hv, hc⟩ := h.env t y hl
      have : a.eval (.tmp t) = v := by simp [Act.eval, hv]
      rw [this]; exact hc
  | const v =>
    simp only [rd, Act.eval]
    cases v with
    | agg cs =>
      simp only [V.ofV]
      split
      · rename_i hcs
        refine .d (.agg ?_)
        generalize cs.toList = l at hcs
        induction l with
        | nil => exact .nil
        | cons v r ih =>
          simp only [List.all_cons, Bool.and_eq_true] at hcs
          refine .cons hcs.1.1 ?_ (ih (by simpa using hcs.2))
          unfold D.ofCell
          split
          · exact .nil
          · exact .v hcs.1.1 hcs.1.2
      · exact .any
    | tuple vs => exact .any
    | string s =>
      simp only [V.ofV]
      split
      · rename_i hs; exact .d (.v rfl (by simpa [strOk] using hs))
      · exact .any
    | slice a n c =>
      cases a with
      | some p => exact .any
      | none =>
        cases n with
        | succ n => exact .any
        | zero => cases c with
          | succ n => exact .any
          | zero => exact .d .nil
    | _ => exact .d (.v rfl rfl)
  | func f => exact .d (.v rfl rfl)
  | global n => exact .d (.v rfl rfl)

theorem rdg_ok {g : Gx} {st : St} {a : Act} {w : World} {c : Cx} (h : Holds g st a w c) (x : Operand) {gb : Bool} (hg : gb = true) (hs : (rdg gb st x).1) : CV c st.L (a.eval x) (rdg gb st x).2 := by
  have h0 := rd_ok h x
  generalize a.eval x = u at *
  unfold rdg at hs ⊢
  split
  · rename_i b y hy
    rw [hy] at h0 hs
    cases h0 with | g r _ => exact r (hs hg)
  · exact h0

theorem CV.int {c L v k n} (h : CV c L v (.d (.v (.int k n)))) : v = .int k n := by cases h with | d r => cases r; rfl
theorem CV.bool {c L v b} (h : CV c L v (.d (.v (.bool b)))) : v = .bool b := by cases h with | d r => cases r; rfl
theorem CV.string {c L v b} (h : CV c L v (.d (.v (.string b)))) : v = .string b ∧ (sb b).length ≤ maxLen := by cases h with | d r => cases r with | v h hs => exact ⟨rfl, of_decide_eq_true hs⟩
theorem CV.ofInt {c L} (k n) : CV c L (.int k n) (.d (.v (.int k n))) := .d (.v rfl rfl)
theorem CV.ofBool {c L} (b) : CV c L (.bool b) (.d (.v (.bool b))) := .d (.v rfl rfl)

theorem size_sb (s : ByteArray) : s.size = (sb s).length := Lib.size_eq s
theorem toList_sb (s : ByteArray) : s.toList = sb s := ByteArray.toList_eq s
theorem app_sb (a b : ByteArray) : a ++ b = ⟨(sb a ++ sb b).toArray⟩ := by
  apply ByteArray.ext; simp [sb]

theorem tk_bool {P : Program} {t : TypeId} (h : tk P t = .bool) : P.underlying t = some .bool := by
  unfold tk at h; (repeat' split at h) <;> simp_all
theorem tk_string {P : Program} {t : TypeId} (h : tk P t = .string) : P.underlying t = some .string := by
  unfold tk at h; (repeat' split at h) <;> simp_all
theorem tk_int {P : Program} {t : TypeId} {k} (h : tk P t = .int k) : P.underlying t = some (.int k) := by
  unfold tk at h; (repeat' split at h) <;> simp_all
theorem tk_slice {P : Program} {t : TypeId} {e n b} (h : tk P t = .slice e n b) : P.underlying t = some (.slice e) ∧ ∃ i, P.info? e = some i ∧ i.size = n ∧ i.bytes = b := by
  unfold tk at h; (repeat' split at h) <;> simp_all
theorem tk_array {P : Program} {t : TypeId} {e n s b} (h : tk P t = .array n e s b) : P.underlying t = some (.array n e) ∧ ldk P e = some (b, s) := by
  unfold tk at h; (repeat' split at h) <;> simp_all
theorem tk_struct' {P : Program} {t : TypeId} {fs} (h : tk P t = .struct fs) : ∃ fa, P.underlying t = some (.struct fa) ∧ (fa.toList.all fun f => (ldk P f.type).isSome) = true ∧
    fs = fa.toList.map fun f => (f.offset, match ldk P f.type with | some (b, n) => (n, b) | none => (0, false)) := by
  unfold tk at h; (repeat' split at h) <;> simp_all
theorem tk_struct {P : Program} {t : TypeId} {fs} (h : tk P t = .struct fs) : ∃ fa, P.underlying t = some (.struct fa) ∧
    fs = fa.toList.map fun f => (f.offset, match ldk P f.type with | some (b, n) => (n, b) | none => (0, false)) := by
  obtain ⟨fa, h1, _, h2⟩ := tk_struct' h; exact ⟨fa, h1, h2⟩
theorem ldk_info {P : Program} {t b n} (h : ldk P t = some (b, n)) : ∃ i, P.info? t = some i ∧ i.size = n := by
  unfold ldk at h; (repeat' split at h) <;> simp_all
theorem ldk_agg {P : Program} {t b n} (h : ldk P t = some (b, n)) (w : World) : (isAgg t).run P w = .ok b w ∧ (sizeOf t).run P w = .ok n w := by
  obtain ⟨i, hi, hn⟩ := ldk_info h
  refine ⟨?_, by simp [sizeOf, typeInfo, hi, hn]⟩
  unfold ldk at h
  cases hu : P.underlying t with
  | none => simp [hu] at h
  | some d =>
    rw [hu, hi] at h
    unfold isAgg
    rw [Sem.run_bind, run_underlying hu w]
    cases d <;> simp_all
theorem beqD (a b : List UInt8) : (a == b) = decide (a = b) := by by_cases h : a = b <;> simp [h]
theorem intEq (a b : Int) : (a == b) = decide (a = b) := by by_cases h : a = b <;> simp [h]

/-- The value's part of 'qbin'. -/
theorem qbin_ok {P : Program} {w : World} {c : Cx} {L} {op : BinOp} {x y : V} {u v : Value} (hu : CV c L u x) (hv : CV c L v y) (t : TypeId) (ox oy : Operand) (hs : (qbin (tk P t) (eqTy P t) op x y).side) :
    ∃ r, (eqGuard op t ox oy u v >>= fun _ => binOp op t u v).run P w = .ok r w ∧ CV c L r (qbin (tk P t) (eqTy P t) op x y).val := by
  unfold qbin at hs ⊢
  split at hs
  · rename_i k a k' b
    have e1 := hu.int; have e2 := hv.int; subst e1 e2
    have hg : (eqGuard op t ox oy (.int k a) (.int k' b)).run P w = .ok () w := by unfold eqGuard; split <;> rfl
    rw [Sem.run_bind, hg, Result.andThen_ok]
    split at hs
    · exact ⟨_, by have h0 : ¬ b < 0 := by simp only [qshift] at hs; omega
                   simp [binOp, Op.shift, h0], .ofInt _ _⟩
    · exact ⟨_, by have h0 : ¬ b < 0 := by simp only [qshift] at hs; omega
                   simp [binOp, Op.shift, h0], .ofInt _ _⟩
    · rename_i o1 o2
      obtain ⟨rfl, hs⟩ := hs
      cases op <;> first
        | (exact absurd rfl o1)
        | (exact absurd rfl o2)
        | (refine ⟨_, ?_, .ofInt k _⟩; simp [binOp, Op.intArith, Op.intBits]; done)
        | (refine ⟨_, ?_, .ofInt k _⟩; have hb : ¬ b = 0 := hs; simp only [binOp, Op.intDiv, ne_eq, not_true_eq_false, if_false]; rw [if_neg hb]; rfl)
        | (refine ⟨_, ?_, .ofBool _⟩; simp [binOp, Op.intCmp, intEq, bne]; done)
        | (refine ⟨.int k _, ?_, .ofInt k _⟩; simp only [binOp, Op.intBits, ne_eq, not_true_eq_false, if_false]; rfl)
  · rename_i a b
    obtain ⟨e1, h1⟩ := hu.string; obtain ⟨e2, h2⟩ := hv.string; subst e1 e2
    have hg : (eqGuard op t ox oy (.string a) (.string b)).run P w = .ok () w := by unfold eqGuard; split <;> rfl
    rw [Sem.run_bind, hg, Result.andThen_ok]
    cases op <;> simp only [qstr, Q.no, Q.ok] at hs ⊢
    · have h3 : ¬ ((a.size + b.size : Nat) : Int) > IntKind.i64.max := by
        rw [size_sb, size_sb]; have : IntKind.i64.max = 9223372036854775807 := by decide
        omega
      refine ⟨_, by simp only [binOp, Op.stringOp]; rw [if_neg h3]; rfl, ?_⟩
      rw [app_sb]
      refine .d (.v rfl ?_)
      refine decide_eq_true ?_
      show (sb a ++ sb b).length ≤ maxLen
      rw [List.length_append]; unfold maxLen; omega
    all_goals first
      | exact hs.elim
      | (refine ⟨_, ?_, .ofBool _⟩; rw [binOp_string_eql, Sem.run_pure, toList_sb, toList_sb, beqD])
      | (refine ⟨_, ?_, .ofBool _⟩; rw [binOp_string_neq, Sem.run_pure, toList_sb, toList_sb, beqD])
      | (refine ⟨_, ?_, .ofBool _⟩; rw [binOp_string_lss, Sem.run_pure, toList_sb, toList_sb])
  · rename_i a b
    have e1 := hu.bool; have e2 := hv.bool; subst e1 e2
    have hg : (eqGuard op t ox oy (.bool a) (.bool b)).run P w = .ok () w := by unfold eqGuard; split <;> rfl
    rw [Sem.run_bind, hg, Result.andThen_ok]
    cases op <;> simp only [Q.no] at hs ⊢ <;> first
      | exact hs.elim
      | (refine ⟨_, ?_, .ofBool _⟩
         have ht := tk_bool hs
         first | exact run_eql_bool w t a b ht | exact run_neq_bool w t a b ht)
  · rename_i as bs
    split at hs
    · rename_i l b hl hb
      have hgt : P.eqGuardType P.depth t = false ∧ (offsAll P 8 t && (P.underlying t).any dAgg) = true ∧ lfs P 8 t = some l := by
        unfold eqTy at hl
        split at hl
        · cases hl
        · rename_i h1
          split at hl
          · rename_i h2; exact ⟨by simpa using h1, h2, hl⟩
          · cases hl
      obtain ⟨hg, ho, hlf⟩ := hgt
      simp only [Bool.and_eq_true] at ho
      obtain ⟨ho, hagg⟩ := ho
      cases hu with
      | d hru => cases hru with
        | agg hru =>
          rename_i xs
          cases hv with
          | d hrv => cases hrv with
            | agg hrv =>
              rename_i ys
              have key : okK l as = true → okK l bs = true → (Op.equalIn 10000 t (.agg xs) (.agg ys)).run P w = .ok b w := by
                intro k1 k2
                have hag : ∀ w : World, (isAgg t).run P w = .ok true w := by
                  intro w
                  cases hun : P.underlying t with
                  | none => rw [hun] at hagg; cases hagg
                  | some u => rw [isAgg_of hun w]; rw [hun] at hagg; exact congrArg (Result.ok · w) hagg
                exact eqIn_ok 8 t l 10000 8 w _ _ as bs b hlf ho (by decide) (.agg hag hru) (.agg hag hrv) k1 k2 hb
              have hgd := run_eqGuard_agg (P := P) w op t ox oy xs ys hg
              rw [Sem.run_bind, hgd, Result.andThen_ok]
              cases op <;> simp only [Q.no] at hs ⊢ <;> first
                | exact hs.elim
                | (refine ⟨_, ?_, .ofBool _⟩
                   first
                     | (rw [run_eql_struct, key hs.1 hs.2]; rfl)
                     | (rw [run_neq_struct, key hs.1 hs.2]; rfl))
    · exact hs.elim
  · exact hs.elim

theorem tk_pointer {P : Program} {t : TypeId} {e} (h : tk P t = .pointer e) : P.underlying t = some (.pointer e) := by
  unfold tk at h; (repeat' split at h) <;> simp_all
theorem tk_iface {P : Program} {t : TypeId} (h : tk P t = .iface) : ∃ ms, P.underlying t = some (.interface ms) := by
  unfold tk at h; (repeat' split at h) <;> simp_all
theorem tk_map {P : Program} {t : TypeId} {k e} (h : tk P t = .map k e) : P.underlying t = some (.map k e) := by
  unfold tk at h; (repeat' split at h) <;> simp_all
theorem CV.v {c L v x} (h : CV c L v (.d (.v x))) : v = x := by cases h with | d r => cases r; rfl

theorem qnilEq_ok {P : Program} {w : World} {c : Cx} {L} {x y : V} {u v : Value} (hu : CV c L u x) (hv : CV c L v y) (t : TypeId) (ox oy : Operand) {b : Bool} (hs : qnilEq (isC ox || isC oy) (tk P t) x y = some b) :
    (∀ op, (eqGuard op t ox oy u v).run P w = .ok () w) ∧ (Op.equal t u v).run P w = .ok b w ∧ (∀ k a, u ≠ .int k a) ∧ (∀ a, u ≠ .string a) ∧ (∀ k a, u ≠ .float k a) ∧ (∀ k a b, u ≠ .complex k a b) := by
  have g1 : ∀ u v : Value, (∀ cs, u ≠ .agg cs) → u ≠ .nilIface → ∀ op, (eqGuard op t ox oy u v).run P w = .ok () w := by
    intro u v h1 h2 op
    unfold eqGuard
    cases u <;> first | exact absurd rfl h2 | exact absurd rfl (h1 _) | (cases op <;> rfl)
  unfold qnilEq at hs
  split at hs
  · rename_i e a ht
    have hp := tk_pointer ht
    have := hu.v; subst this; have := hv.v; subst this
    cases hs
    refine ⟨g1 _ _ (by simp) (by simp), ?_, by simp, by simp, by simp, by simp⟩
    cases a <;> (show (Op.equalIn (9999 + 1) t _ _).run P w = _; rw [Op.equalIn]; simp only [Sem.run_bind, run_underlying hp, Result.andThen_ok]; rfl)
  · rename_i e _ _ ht
    have hp := tk_pointer ht
    have := hv.v; subst this
    cases hs
    cases hu
    exact ⟨g1 _ _ (by simp) (by simp), by show (Op.equalIn (9999 + 1) t _ _).run P w = _; rw [Op.equalIn]; simp only [Sem.run_bind, run_underlying hp, Result.andThen_ok]; rfl, by simp, by simp, by simp, by simp⟩
  · rename_i e _ ht
    have hp := tk_pointer ht
    have := hv.v; subst this
    cases hs
    cases hu
    exact ⟨g1 _ _ (by simp) (by simp), by show (Op.equalIn (9999 + 1) t _ _).run P w = _; rw [Op.equalIn]; simp only [Sem.run_bind, run_underlying hp, Result.andThen_ok]; rfl, by simp, by simp, by simp, by simp⟩
  · rename_i e _ _ _ ht
    have hp := tk_pointer ht
    have := hv.v; subst this
    cases hs
    cases hu
    exact ⟨g1 _ _ (by simp) (by simp), by show (Op.equalIn (9999 + 1) t _ _).run P w = _; rw [Op.equalIn]; simp only [Sem.run_bind, run_underlying hp, Result.andThen_ok]; rfl, by simp, by simp, by simp, by simp⟩
  · rename_i ht
    obtain ⟨ms, hp⟩ := tk_iface ht
    have := hu.v; subst this; have := hv.v; subst this
    split at hs
    · rename_i hc
      cases hs
      refine ⟨fun op => ?_, by show (Op.equalIn (9999 + 1) t _ _).run P w = _; rw [Op.equalIn]; simp only [Sem.run_bind, run_underlying hp, Result.andThen_ok]; rfl, by simp, by simp, by simp, by simp⟩
      cases ox <;> cases oy <;> first | (simp [isC] at hc; done) | (cases op <;> rfl)
    · cases hs
  · rename_i ht
    obtain ⟨ms, hp⟩ := tk_iface ht
    have := hu.v; subst this; have := hv.v; subst this
    cases hs
    exact ⟨g1 _ _ (by simp) (by simp), by show (Op.equalIn (9999 + 1) t _ _).run P w = _; rw [Op.equalIn]; simp only [Sem.run_bind, run_underlying hp, Result.andThen_ok]; rfl, by simp, by simp, by simp, by simp⟩
  · rename_i k e a ht
    have hp := tk_map ht
    have := hu.v; subst this; have := hv.v; subst this
    cases hs
    refine ⟨g1 _ _ (by simp) (by simp), ?_, by simp, by simp, by simp, by simp⟩
    cases a <;> (show (Op.equalIn (9999 + 1) t _ _).run P w = _; rw [Op.equalIn]; simp only [Sem.run_bind, run_underlying hp, Result.andThen_ok]; rfl)
  · cases hs

theorem qbinN_ok {P : Program} {w : World} {c : Cx} {L} {op : BinOp} {x y : V} {u v : Value} (hu : CV c L u x) (hv : CV c L v y) (t : TypeId) (ox oy : Operand) (hs : (qbinN (isC ox || isC oy) (tk P t) (eqTy P t) op x y).side) :
    ∃ r, (eqGuard op t ox oy u v >>= fun _ => binOp op t u v).run P w = .ok r w ∧ CV c L r (qbinN (isC ox || isC oy) (tk P t) (eqTy P t) op x y).val := by
  unfold qbinN at hs ⊢
  split at hs
  · rename_i b hb
    obtain ⟨h1, h2, h3, h4, h5, h6⟩ := qnilEq_ok (w := w) hu hv t ox oy hb
    split at hs
    · refine ⟨_, ?_, .ofBool _⟩
      rw [Sem.run_bind, h1, Result.andThen_ok]
      cases u <;> simp_all [binOp]
    · refine ⟨_, ?_, .ofBool _⟩
      rw [Sem.run_bind, h1, Result.andThen_ok]
      cases u <;> simp_all [binOp]
    · exact hs.elim
  · exact qbin_ok hu hv t ox oy hs

end Go.Ab
