/- THE ABSTRACT LAYER: heap objects: new ones, changed ones. -/
import Derived.Test.YtjnkfcbbgfgmhaaDoorAbApp
set_option linter.unusedSimpArgs false
set_option linter.unusedVariables false
namespace Go.Ab
open Go

section
variable {g : Gx} {st : St} {a : Act} {w : World} {c : Cx}

/-- A new heap object. -/
theorem Holds.newH (h : Holds g st a w c) (o : Obj) {ho : HO} (hho : ∀ w', w'.heap[w.heap.size]? = some o → HOk c.m w' w.heap.size ho) :
    st.H w.heap.size = none ∧ ∃ c', Holds g { st with H := upd st.H w.heap.size ho } a (w.alloc o) c' ∧ Cx.le c c' st.L st.L ∧ c'.m = c.m := by
  have hnone : st.H w.heap.size = none := by
    cases hH : st.H w.heap.size with
    | none => rfl
    | some x =>
      have := h.inw _ ((h.heap.foot _).2 (by rw [hH]; rfl))
      omega
  let c' : Cx := { c with F := fun b => c.F b ∨ b = w.heap.size }
  have hc : Cx.le c c' st.L st.L := ⟨.refl _, fun _ x => x, fun _ _ _ x => x, fun _ _ _ _ x => ⟨rfl, _, _, rfl, x⟩⟩
  refine ⟨hnone, c', ⟨h.defers, h.slots, ?_, ?_, ?_, ?_, h.mono, ?_, h.inj, ?_, ?_, h.old, ?_⟩, hc, rfl⟩
  · intro k x hk
    obtain ⟨v, hv, hcv⟩ := h.env k x hk
    exact ⟨v, hv, hcv.mono hc⟩
  · intro k o' hk
    have hlo := h.loc k o' hk
    exact hlo.keep hc rfl rfl fun b hb => ⟨heap_alloc_old w _ b (hlo.blk hb), fun _ => rfl⟩
  · have hold := h.heap.keep (w' := w.alloc o) (.refl _) fun b hf => ⟨heap_alloc_old w _ b (h.inw b hf), fun _ => rfl⟩
    refine ⟨fun k x hk => ?_, fun k => ?_, fun k hk j => ?_⟩
    · by_cases e : k = w.heap.size
      · subst e
        simp only [upd, if_true, Option.some.injEq] at hk
        subst hk; exact hho _ (heap_alloc_new w _)
      · simp only [upd, if_neg e] at hk
        exact hold.at_ k x hk
    · show (c.F k ∨ k = w.heap.size) ↔ _
      unfold upd
      by_cases e : k = w.heap.size
      · subst e; simp
      · simp only [e, or_false, if_false]; exact h.heap.foot k
    · rcases hk with hk | rfl
      · exact h.heap.free k hk j
      · exact h.agr.out (Nat.le_refl _) j
  · intro b o' v hv
    rw [World.cell?_alloc_old _ _ _ (Nat.ne_of_lt (h.agr.lt hv))]
    exact h.agr b o' v hv
  · exact h.later.trans rfl rfl rfl (by simp) fun k hk _ => heap_alloc_old w _ k (Nat.lt_of_lt_of_le hk h.later.size)
  · intro i b hi hb
    refine ⟨(h.fresh i b hi hb).1, fun hf => ?_⟩
    rcases hf with hf | rfl
    · exact (h.fresh i b hi hb).2 hf
    · obtain ⟨o', ho'⟩ := Option.isSome_iff_exists.1 hi
      have := (h.loc i o' ho').blk hb; omega
  · intro b hf
    rcases hf with hf | rfl
    · exact h.foot b hf
    · exact .inr h.later.size
  · intro b hf
    simp only [World.size_alloc]
    rcases hf with hf | rfl
    · have := h.inw b hf; omega
    · omega

/-- A heap object becomes another. -/
theorem Holds.setH (h : Holds g st a w c) {k : Nat} {o : HO} (hk : st.H k = some o) {w' : World} (ho : w'.os = w.os) (ht : w'.tape = w.tape) (hou : w'.output = w.output) (hs : w'.heap.size = w.heap.size)
    (hb : ∀ j, j ≠ k → w'.heap[j]? = w.heap[j]?) {ho' : HO} (hho : HOk c.m w' k ho') : Holds g { st with H := upd st.H k ho' } a w' c := by
  have hF : c.F k := (h.heap.foot k).2 (by rw [hk]; rfl)
  refine ⟨h.defers, h.slots, h.env, ?_, ?_, ?_, h.mono, ?_, h.inj, h.fresh, h.foot, h.old, fun b hf => by rw [hs]; exact h.inw b hf⟩
  · intro i o' hi
    have hlo := h.loc i o' hi
    exact hlo.keep (.refl _ _) rfl rfl fun b hbk => ⟨hb b fun e => by subst e; exact (h.fresh i b (by rw [hi]; rfl) hbk).2 hF, fun _ => rfl⟩
  · refine ⟨fun j x hj => ?_, fun j => ?_, h.heap.free⟩
    · by_cases hne : j = k
      · subst hne
        simp only [upd, if_true, Option.some.injEq] at hj
        subst hj; exact hho
      · simp only [upd, if_neg hne] at hj
        have e := hb j hne
        cases h.heap.at_ j x hj with
        | cells hh hv => exact .cells (e.trans hh) hv
        | map hh h1 h2 => exact .map (e.trans hh) h1 h2
        | iter hh hl => exact .iter (e.trans hh) hl
    · rw [h.heap.foot j]
      unfold upd
      by_cases e : j = k
      · subst e; simp [hk]
      · simp [e]
  · intro b o' v hv
    have hne : b ≠ k := fun e => by subst e; rw [h.heap.free b hF] at hv; cases hv
    rw [World.cell?_of_block (a := ⟨b, o', none⟩) (hb b hne)]
    exact h.agr b o' v hv
  · refine h.later.trans ho ht hou (by omega) fun j hj hf => hb j fun e => ?_
    subst e
    rcases h.foot j hF with h1 | h1
    · exact hf h1
    · omega
end
end Go.Ab
