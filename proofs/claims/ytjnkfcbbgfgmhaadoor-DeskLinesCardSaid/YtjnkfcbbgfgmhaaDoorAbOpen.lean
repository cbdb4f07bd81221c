/- WHAT AN ARGUMENT HOLDS: data that the row reads are data of the layer, of the type's shape (integers, bools, texts, slices, structs, arrays). -/
import Derived.Test.YtjnkfcbbgfgmhaaDoorAbRow
set_option linter.unusedSimpArgs false
set_option linter.unusedVariables false
namespace Go.Ab
open Go Go.RowKit Go.ChangeShapes

/-- The shape of a cell. -/
inductive CS where
  | bool
  | str
  | int (k : IntKind)
  | sl (sz : Nat) (ag : Bool) (es : List CS)

mutual
def InC : CS → D → Prop
  | .bool, d => ∃ b, d = .v (.bool b)
  | .str, d => ∃ s : List UInt8, s.length ≤ maxLen ∧ d = .v (.string ⟨⟨s⟩⟩)
  | .int k, d => ∃ n, d = .v (.int k n) ∧ (Lit.int k n).wf = true
  | .sl sz ag es, d => ∃ xs, d = .sl sz false xs ∧ xs.length ≤ maxLen ∧ ∀ x ∈ xs, ∃ ds, (if ag then x = .agg ds else ds = [x]) ∧ InCL es ds
def InCL : List CS → List D → Prop
  | [], ds => ds = []
  | c :: cs, ds => ∃ d r, ds = d :: r ∧ InC c d ∧ InCL cs r
end

def agT (P : Program) (t : TypeId) : Bool := match P.underlying t with
  | some (.struct _) | some (.array _ _) => true
  | _ => false
def fieldsAt (P : Program) : List Field → Nat → Bool
  | [], _ => true
  | f :: fl, o => decide (f.offset = o) && fieldsAt P fl (o + P.cellsOf f.type)
def sumOf (P : Program) : List Field → Nat
  | [] => 0
  | f :: fl => P.cellsOf f.type + sumOf P fl
/-- The shapes of a type's cells. -/
def cellsSh (P : Program) : Nat → TypeId → Option (List CS)
  | 0, _ => none
  | n + 1, t => match P.underlying t with
    | some .bool => some [.bool]
    | some (.int k) => some [.int k]
    | some .string => some [.str]
    | some (.slice e) => if P.cellsOf e = 0 then none else (cellsSh P n e).map fun es => [.sl (P.cellsOf e) (agT P e) es]
    | some (.struct fs) => if fieldsAt P fs.toList 0 = true ∧ sumOf P fs.toList = P.cellsOf t then (fs.toList.mapM fun f => cellsSh P n f.type).map List.flatten else none
    | _ => none

theorem InCL.app : ∀ {a b : List CS} {x y : List D}, InCL a x → InCL b y → InCL (a ++ b) (x ++ y)
  | [], b, x, y, h, k => by simp only [InCL] at h; subst h; exact k
  | c :: a, b, x, y, h, k => by
    simp only [InCL] at h
    obtain ⟨d, r, rfl, h1, h2⟩ := h
    simp only [List.cons_append, InCL]
    exact ⟨d, r ++ y, rfl, h1, InCL.app h2 k⟩
theorem InC.cells : ∀ {c : CS} {d : D}, InC c d → d.cells = [d]
  | .bool, d, h => by simp only [InC] at h; obtain ⟨b, rfl⟩ := h; rfl
  | .str, d, h => by simp only [InC] at h; obtain ⟨b, _, rfl⟩ := h; rfl
  | .int k, d, h => by simp only [InC] at h; obtain ⟨b, rfl, _⟩ := h; rfl
  | .sl .., d, h => by simp only [InC] at h; obtain ⟨b, rfl, _⟩ := h; rfl
/-- A type of no aggregate has one shape. -/
theorem sh_one {P : Program} {t : TypeId} (ha : agT P t = false) : ∀ {n sh}, cellsSh P n t = some sh → ∃ c, sh = [c]
  | 0, _, h => by cases h
  | n + 1, sh, h => by
    unfold cellsSh at h
    unfold agT at ha
    split at h
    · exact ⟨_, (Option.some.inj h).symm⟩
    · exact ⟨_, (Option.some.inj h).symm⟩
    · exact ⟨_, (Option.some.inj h).symm⟩
    · split at h
      · cases h
      · obtain ⟨es, _, rfl⟩ := Option.map_eq_some_iff.1 h
        exact ⟨_, rfl⟩
    · rename_i e; rw [e] at ha; cases ha
    · cases h
theorem mapM_cons_some {α β : Type} {f : α → Option β} {a : α} {l : List α} {r : List β} (h : (a :: l).mapM f = some r) : ∃ b s, f a = some b ∧ l.mapM f = some s ∧ r = b :: s := by
  rw [List.mapM_cons] at h
  cases ha : f a with
  | none => rw [ha] at h; cases h
  | some b =>
    rw [ha] at h
    cases hl : l.mapM f with
    | none => rw [hl] at h; cases h
    | some s => rw [hl] at h; cases h; exact ⟨b, s, rfl, rfl, rfl⟩
section
variable {H : Type} {enc : TypeId × Value → H} {P : Program} {w : World} {base : Nat} {held : Bool}
theorem fields_of {n m : Nat} {cs : List Value} (ih : ∀ (n : Nat) (t : TypeId) (cs : List Value) (x : DataW H × List MemPlace) (sh : List CS), DataW.trod enc P w base (fun _ => true) held n t cs = some x → cellsSh P m t = some sh → ∃ ds, ReadsL (memOf w) cs ds ∧ InCL sh ds) :
    ∀ (fl : List Field) (o : Nat) (shs : List (List CS)), fieldsAt P fl o = true → (∀ f ∈ fl, ∃ y, DataW.trod enc P w base (fun _ => true) held n f.type ((cs.drop f.offset).take (P.cellsOf f.type)) = some y) →
      fl.mapM (fun f => cellsSh P m f.type) = some shs → ∃ ds, ReadsL (memOf w) ((cs.drop o).take (sumOf P fl)) ds ∧ InCL shs.flatten ds
  | [], o, shs, _, _, h => by
    obtain rfl : shs = [] := by simpa using h.symm
    exact ⟨[], by simpa [sumOf] using ReadsL.nil, by simp [InCL]⟩
  | f :: fl, o, shs, ho, hy, h => by
    obtain ⟨sh, s, h1, h2, rfl⟩ := mapM_cons_some h
    simp only [fieldsAt, Bool.and_eq_true, decide_eq_true_eq] at ho
    obtain ⟨rfl, ho⟩ := ho
    obtain ⟨y, hy1⟩ := hy f (List.mem_cons_self ..)
    obtain ⟨ds, a1, a2⟩ := ih _ _ _ _ _ hy1 h1
    obtain ⟨es, b1, b2⟩ := fields_of ih fl _ s ho (fun g hg => hy g (List.mem_cons_of_mem _ hg)) h2
    refine ⟨ds ++ es, ?_, ?_⟩
    · rw [sumOf, List.take_add, List.drop_drop]
      exact a1.app b1
    · rw [List.flatten_cons]
      exact a2.app b2
theorem elems_of {n m ce len : Nat} {e : TypeId} {es : List CS} {b off : Nat} (hce : 0 < ce) (hP : P.cellsOf e = ce)
    (ih : ∀ (n : Nat) (t : TypeId) (cs : List Value) (x : DataW H × List MemPlace) (sh : List CS), DataW.trod enc P w base (fun _ => true) held n t cs = some x → cellsSh P m t = some sh → ∃ ds, ReadsL (memOf w) cs ds ∧ InCL sh ds)
    (hs : cellsSh P m e = some es) (he : ∀ i, i < len → ∃ c y, w.cells? base ⟨b, off + i * ce, none⟩ ce = some c ∧ DataW.trod enc P w base (fun _ => true) held n e c = some y) :
    ∀ j, j ≤ len → ∃ (vals : List Value) (xs : List D), xs.length = j ∧ vals.length = j * ce ∧ (∀ i v, vals[i]? = some v → memOf w b (off + i) = some v) ∧ ReadsL (memOf w) vals (xs.flatMap D.cells) ∧
      (∀ x ∈ xs, x.cells.length = ce) ∧ ∀ x ∈ xs, ∃ ds, (if agT P e then x = .agg ds else ds = [x]) ∧ InCL es ds
  | 0, _ => ⟨[], [], rfl, by simp, by simp, .nil, by simp, by simp⟩
  | j + 1, hj => by
    obtain ⟨vals, xs, h1, h2, h3, h4, h5, h6⟩ := elems_of hce hP ih hs he j (by omega)
    obtain ⟨c, y, hc, hy⟩ := he j (by omega)
    obtain ⟨ds, hr, hi⟩ := ih _ _ _ _ _ hy hs
    obtain ⟨_, hcl, hcc⟩ := World.cells?_some hc
    have hdl : ds.length = ce := by rw [← hr.length, hcl]
    obtain ⟨x, hx, hxi⟩ : ∃ x : D, x.cells = ds ∧ ∃ ds', (if agT P e then x = .agg ds' else ds' = [x]) ∧ InCL es ds' := by
      cases ha : agT P e with
      | true => exact ⟨.agg ds, rfl, ds, by simp, hi⟩
      | false =>
        obtain ⟨k, rfl⟩ := sh_one ha hs
        have hi' := hi
        simp only [InCL] at hi'
        obtain ⟨d, r, rfl, hd, rfl⟩ := hi'
        exact ⟨d, hd.cells, [d], by simp, hi⟩
    refine ⟨vals ++ c, xs ++ [x], by simp [h1], by rw [List.length_append, h2, hcl, Nat.succ_mul], ?_, ?_, ?_, ?_⟩
    · intro i v hv
      rw [List.getElem?_append] at hv
      split at hv
      · exact h3 i v hv
      · rename_i hlt
        have hk : i - vals.length < c.length := (List.getElem?_eq_some_iff.1 hv).1
        have := hcc (i - vals.length) (by omega)
        rw [hv] at this
        rw [← this, memOf]
        have e : (⟨b, off + j * ce, none⟩ : Addr).add (i - vals.length) = ⟨b, off + i, none⟩ := by
          have hi : ((off + j * ce : Nat)) + (i - vals.length) = off + i := by omega
          unfold Addr.add; split <;> simp_all <;> omega
        rw [e]
    · rw [List.flatMap_append, List.flatMap_singleton, hx]
      exact h4.app hr
    · intro x' hx'
      rcases List.mem_append.1 hx' with h | h
      · exact h5 x' h
      · obtain rfl := List.mem_singleton.1 h
        rw [hx, hdl]
    · intro x' hx'
      rcases List.mem_append.1 hx' with h | h
      · exact h6 x' h
      · obtain rfl := List.mem_singleton.1 h
        exact hxi
/-- WHAT A ROW READS, READS. -/
theorem readsL_of_trod : ∀ (m n : Nat) (t : TypeId) (cs : List Value) (x : DataW H × List MemPlace) (sh : List CS), DataW.trod enc P w base (fun _ => true) held n t cs = some x → cellsSh P m t = some sh → ∃ ds, ReadsL (memOf w) cs ds ∧ InCL sh ds
  | 0, _, _, _, _, _, _, h => by cases h
  | m + 1, n, t, cs, x, sh, h, hs => by
    have ih := readsL_of_trod m
    unfold cellsSh at hs
    split at hs
    · rename_i ht
      cases hs
      obtain ⟨b, rfl, rfl⟩ := DataW.trod_bool ht h
      exact ⟨[.v (.bool b)], .cons rfl (.v rfl rfl) .nil, by simp [InCL, InC]⟩
    · rename_i k ht
      cases hs
      obtain ⟨i, rfl, rfl, hw⟩ := DataW.trod_int ht h
      exact ⟨[.v (.int k i)], .cons rfl (.v rfl rfl) .nil, by simp [InCL, InC, hw]⟩
    · rename_i ht
      cases hs
      obtain ⟨s, rfl, rfl, hl⟩ := DataW.trod_string ht h
      have hl' : s.data.toList.length ≤ maxLen := by rw [Array.length_toList]; exact hl
      exact ⟨[.v (.string s)], .cons rfl (.v rfl (decide_eq_true hl')) .nil, by simp only [InCL, InC]; exact ⟨_, _, rfl, ⟨s.data.toList, hl', rfl⟩, rfl⟩⟩
    · rename_i e ht
      split at hs
      · cases hs
      · rename_i hce
        obtain ⟨es, hes, rfl⟩ := Option.map_eq_some_iff.1 hs
        have hce : 0 < P.cellsOf e := by omega
        rcases DataW.trod_slice ht h with ⟨rfl, rfl⟩ | ⟨a, len, cap, elems, rest, n', rfl, rfl, rfl, hb, hlc, hcm, hel, helem, hsp, _⟩
        · exact ⟨[.sl (P.cellsOf e) false []], .cons rfl .nil .nil, by simp only [InCL, InC]; exact ⟨_, _, rfl, ⟨[], rfl, by simp, by simp⟩, rfl⟩⟩
        · obtain ⟨hrl, hrest⟩ := hsp rfl
          rcases Nat.eq_zero_or_pos cap with hc0 | hc0
          · subst hc0
            obtain rfl : len = 0 := by omega
            exact ⟨[.sl (P.cellsOf e) false []], .cons rfl (.sl0 hce) .nil, by simp only [InCL, InC]; exact ⟨_, _, rfl, ⟨[], rfl, by simp, by simp⟩, rfl⟩⟩
          · have hall : ∀ i, i < len → ∃ c y, w.cells? base (a.add (i * P.cellsOf e)) (P.cellsOf e) = some c ∧ DataW.trod enc P w base (fun _ => true) held n' e c = some y := by
              intro i hi
              have h1 := helem i hi
              rw [List.getElem?_eq_getElem (by omega)] at h1
              obtain ⟨c, h2, h3⟩ := Option.bind_eq_some_iff.1 h1
              exact ⟨c, _, h2, h3⟩
            have hspot : a.spot = none := by
              have : ∃ c, w.cells? base (a.add 0) (P.cellsOf e) = some c := by
                rcases Nat.eq_zero_or_pos len with h0 | h0
                · have h1 := hrest 0 (by omega)
                  rw [List.getElem?_eq_getElem (by omega)] at h1
                  obtain ⟨c, h2, h3⟩ := Option.bind_eq_some_iff.1 h1
                  exact ⟨c, by simpa [h0] using h2⟩
                · obtain ⟨c, y, h2, _⟩ := hall 0 h0
                  exact ⟨c, by simpa using h2⟩
              obtain ⟨c, h2⟩ := this
              obtain ⟨_, hcl, hcc⟩ := World.cells?_some h2
              have h3 := hcc 0 hce
              rw [List.getElem?_eq_getElem (by omega)] at h3
              exact Go.Proofs.cell_spot (b := a.block) (o := a.off) (sp := a.spot) h3
            obtain ⟨b, off, sp⟩ := a
            subst hspot
            have hall : ∀ i, i < len → ∃ c y, w.cells? base ⟨b, off + i * P.cellsOf e, none⟩ (P.cellsOf e) = some c ∧ DataW.trod enc P w base (fun _ => true) held n' e c = some y := fun i hi => by
              have e0 : (⟨b, off, none⟩ : Addr).add (i * P.cellsOf e) = ⟨b, off + i * P.cellsOf e, none⟩ := by
                unfold Addr.add
                split
                · rename_i h0; rw [h0]; rfl
                · rfl
              rw [← e0]
              exact hall i hi
            obtain ⟨vals, xs, h1, h2, h3, h4, h5, h6⟩ := elems_of hce rfl ih hes hall len (Nat.le_refl _)
            refine ⟨[.sl (P.cellsOf e) false xs], .cons rfl (.sl vals hce h1.symm hlc hcm (fun e => by cases e) h5 h3 h4) .nil, ?_⟩
            simp only [InCL, InC]
            exact ⟨_, _, rfl, ⟨xs, rfl, by omega, h6⟩, rfl⟩
    · rename_i fs ht
      split at hs
      · rename_i ho
        obtain ⟨shs, hm, rfl⟩ := Option.map_eq_some_iff.1 hs
        obtain ⟨xs, n', rfl, rfl, hcl, hxl, hf⟩ := DataW.trod_struct ht h
        obtain ⟨ds, hr, hi⟩ := fields_of (n := n') (cs := cs) ih fs.toList 0 shs ho.1 (fun f hfm => by
          obtain ⟨i, hi⟩ := List.mem_iff_getElem?.1 hfm
          have hi' : fs[i]? = some f := by simpa using hi
          have hlt : i < fs.size := (Array.getElem?_eq_some_iff.1 hi').1
          refine ⟨xs[i]'(by omega), ?_⟩
          rw [hf i f hi', List.getElem?_eq_getElem]) hm
        rw [ho.2, List.drop_zero, ← hcl, List.take_length] at hr
        exact ⟨ds, hr, hi⟩
      · cases hs
    · cases hs
end
end Go.Ab
