/- THE ABSTRACT LAYER, PART 12: verification conditions of code ('vc'), and that they suffice. -/
import Derived.Test.YtjnkfcbbgfgmhaaDoorAbHeap
set_option linter.unusedSimpArgs false
set_option linter.unusedVariables false
namespace Go.Ab
open Go

mutual
/-- d says no less than d'. -/
def leD' : D → D → Prop
  | .v x, .v y => x = y
  | .sl s f xs, .sl s' f' ys => (s = 0 ∧ xs = [] ∧ ys = []) ∨ (s = s' ∧ (f' = true → f = true) ∧ (xs = ys ∨ leDs xs ys))
  | .agg cs, .agg ds => cs = ds ∨ leDs cs ds
  | _, _ => False
def leDs : List D → List D → Prop
  | [], [] => True
  | a :: r, b :: s => (a = b ∨ leD' a b) ∧ leDs r s
  | _, _ => False
end
def leD (a b : D) : Prop := a = b ∨ leD' a b

theorem leD'_cells : ∀ {a b : D}, leD' a b → (∀ cs, a ≠ .agg cs) → ∀ cs, b ≠ .agg cs
  | .v _, .v _, _, _, _, e => by cases e
  | .v _, .sl _ _ _, h, _, _, _ => by simp [leD'] at h
  | .v _, .agg _, h, _, _, _ => by simp [leD'] at h
  | .sl _ _ _, .sl _ _ _, _, _, _, e => by cases e
  | .sl _ _ _, .v _, h, _, _, _ => by simp [leD'] at h
  | .sl _ _ _, .agg _, h, _, _, _ => by simp [leD'] at h
  | .agg cs, _, _, h2, _, _ => absurd rfl (h2 cs)

mutual
theorem leD'_ok {m : Mem} : ∀ {a b : D} {v : Value}, leD' a b → Reads m v a → Reads m v b
  | .v x, .v y, v, h, hr => by simp only [leD'] at h; subst h; exact hr
  | .v _, .sl _ _ _, _, h, _ => by simp [leD'] at h
  | .v _, .agg _, _, h, _ => by simp [leD'] at h
  | .sl s f xs, .sl s' f' ys, v, h, hr => by
    simp only [leD'] at h
    rcases h with ⟨rfl, rfl, rfl⟩ | h'
    · cases hr with
      | nil => exact .nil
      | sl0 hz => omega
      | sl vals hz => omega
    ·
      obtain ⟨rfl, hf, he⟩ := h'
      cases hr with
      | nil =>
        have : ys = [] := by
          rcases he with e | e
          · exact e.symm
          · cases ys with
            | nil => rfl
            | cons => simp [leDs] at e
        subst this
        exact .nil
      | sl0 hz =>
        have : ys = [] := by
          rcases he with e | e
          · exact e.symm
          · cases ys with
            | nil => rfl
            | cons => simp [leDs] at e
        subst this
        exact .sl0 hz
      | sl vals hz hn hc hcm hf' hx hm hrr =>
        rcases he with rfl | he
        · exact .sl vals hz hn hc hcm (fun e => hf' (hf e)) hx hm hrr
        · obtain ⟨e1, e2, e3⟩ := leDs_flat (m := m) xs ys he hx
          exact .sl vals hz (hn.trans e1) hc hcm (fun e => hf' (hf e)) e2 hm (e3 _ hrr)
  | .sl _ _ _, .v _, _, h, _ => by simp [leD'] at h
  | .sl _ _ _, .agg _, _, h, _ => by simp [leD'] at h
  | .agg cs, .agg ds, v, h, hr => by
    cases hr with
    | agg hrr =>
      simp only [leD'] at h
      rcases h with rfl | h
      · exact .agg hrr
      · exact .agg (leDs_cells cs ds h hrr)
  | .agg _, .v _, _, h, _ => by simp [leD'] at h
  | .agg _, .sl _ _ _, _, h, _ => by simp [leD'] at h
theorem leDs_cells {m : Mem} : ∀ (cs ds : List D) {vs : List Value}, leDs cs ds → ReadsL m vs cs → ReadsL m vs ds
  | [], [], _, _, hr => hr
  | [], _ :: _, _, h, _ => by simp [leDs] at h
  | _ :: _, [], _, h, _ => by simp [leDs] at h
  | a :: r, b :: s, _, h, .cons h1 hv ht => by
    simp only [leDs] at h
    refine .cons h1 ?_ (leDs_cells r s h.2 ht)
    rcases h.1 with rfl | h'
    · exact hv
    · exact leD'_ok h' hv
theorem leDs_flat {m : Mem} {sz : Nat} : ∀ (xs ys : List D), leDs xs ys → (∀ x ∈ xs, x.cells.length = sz) →
    xs.length = ys.length ∧ (∀ y ∈ ys, y.cells.length = sz) ∧ ∀ vs, ReadsL m vs (xs.flatMap D.cells) → ReadsL m vs (ys.flatMap D.cells)
  | [], [], _, _ => ⟨rfl, by simp, fun _ h => h⟩
  | [], _ :: _, h, _ => by simp [leDs] at h
  | _ :: _, [], h, _ => by simp [leDs] at h
  | a :: r, b :: s, h, hx => by
    simp only [leDs] at h
    obtain ⟨h1, h2⟩ := h
    obtain ⟨i1, i2, i3⟩ := leDs_flat (m := m) r s h2 fun x hx' => hx x (List.mem_cons_of_mem _ hx')
    have ha := hx a (List.mem_cons_self ..)
    have hcell : b.cells.length = sz ∧ ∀ vs, ReadsL m vs a.cells → ReadsL m vs b.cells := by
      rcases h1 with rfl | h1
      · exact ⟨ha, fun _ h => h⟩
      · cases a with
        | agg cs =>
          cases b with
          | agg ds =>
            simp only [leD'] at h1
            rcases h1 with rfl | h1
            · exact ⟨ha, fun _ h => h⟩
            · refine ⟨?_, fun vs hv => leDs_cells cs ds h1 hv⟩
              have : ∀ (cs ds : List D), leDs cs ds → cs.length = ds.length := by
                intro cs
                induction cs with
                | nil => intro ds h; cases ds with
                  | nil => rfl
                  | cons => simp [leDs] at h
                | cons c r ih => intro ds h; cases ds with
                  | nil => simp [leDs] at h
                  | cons d s => simp only [leDs] at h; simp [ih s h.2]
              have hl := this cs ds h1
              simp only [D.cells] at ha ⊢
              omega
          | v => simp [leD'] at h1
          | sl => simp [leD'] at h1
        | v x =>
          cases b with
          | v y => simp only [leD'] at h1; subst h1; exact ⟨ha, fun _ h => h⟩
          | sl => simp [leD'] at h1
          | agg => simp [leD'] at h1
        | sl s f xs =>
          have hb := leD'_cells h1 (by intro cs; simp)
          have hbc : b.cells = [b] := by cases b with
            | agg cs => exact absurd rfl (hb cs)
            | v => rfl
            | sl => rfl
          rw [hbc]
          refine ⟨ha, fun vs hv => ?_⟩
          cases hv with
          | cons h1' hv ht => exact .cons h1' (leD'_ok h1 hv) ht
    refine ⟨by simp [i1], ?_, fun vs hv => ?_⟩
    · intro y hy
      rcases List.mem_cons.1 hy with rfl | hy
      · exact hcell.1
      · exact i2 y hy
    · simp only [List.flatMap_cons] at hv ⊢
      have : vs = vs.take a.cells.length ++ vs.drop a.cells.length := (List.take_append_drop ..).symm
      rw [this]
      have k1 := hv.take a.cells.length
      have k2 := hv.drop a.cells.length
      rw [List.take_left] at k1
      rw [List.drop_left] at k2
      exact (hcell.2 _ k1).app (i3 _ k2)
end
theorem leD_ok {m : Mem} {a b : D} {v : Value} (h : leD a b) (hr : Reads m v a) : Reads m v b := by
  rcases h with rfl | h
  · exact hr
  · exact leD'_ok h hr
theorem leDs_args {m : Mem} : ∀ {ds es : List D} {vs : List Value}, leDs ds es → ReadsA m vs ds → ReadsA m vs es
  | [], [], _, _, h => h
  | [], _ :: _, _, h, _ => by simp [leDs] at h
  | _ :: _, [], _, h, _ => by simp [leDs] at h
  | a :: r, b :: s, _, h, .cons hv ht => by
    simp only [leDs] at h
    exact .cons (leD_ok h.1 hv) (leDs_args h.2 ht)

/-- One abstract state follows from another. -/
def St.imp (st st' : St) : Prop := ∀ (g : Gx) a w c, Holds g st a w c → ∃ c', Holds g st' a w c'
theorem St.imp.refl (st : St) : St.imp st st := fun _ _ _ c h => ⟨c, h⟩
theorem St.imp.trans {a b c : St} (h : St.imp a b) (k : St.imp b c) : St.imp a c := fun g x w cx hh => let ⟨_, h1⟩ := h g x w cx hh; k g x w _ h1

/-- Rows' objects, all frozen. -/
def LO.frz : LO → LO
  | .row sz _ xs => .row sz true xs
  | o => o
def frzL (L : List (Nat × LO)) : List (Nat × LO) := L.map fun p => (p.1, p.2.frz)
theorem lk_frzL (k : Nat) (L : List (Nat × LO)) : lk k (frzL L) = (lk k L).map LO.frz := by
  induction L with
  | nil => rfl
  | cons p r ih =>
    obtain ⟨j, o⟩ := p
    simp only [frzL, List.map_cons, lk_cons] at ih ⊢
    split
    · rfl
    · exact ih

open Classical in
theorem Holds.freeze {g : Gx} {st : St} {a : Act} {w : World} {c : Cx} (h : Holds g st a w c) : ∃ c', Holds g { st with L := frzL st.L } a w c' ∧ Cx.le c c' st.L (frzL st.L) := by
  let hit : Nat → Nat → Prop := fun b o => ∃ k sz xs, lk k st.L = some (.row sz false xs) ∧ c.bk k = some b ∧ o < xs.length * sz
  let m' : Mem := fun b o => if hit b o then w.cell? ⟨b, o, none⟩ else c.m b o
  have none_of : ∀ {b o}, hit b o → ∀ j, c.m b j = none := by
    rintro b o ⟨k, sz, xs, hl, hb, _⟩ j
    cases h.loc k _ hl with
    | nil hv hb' => rw [hb] at hb'; cases hb'
    | row hz hv hb' hh hc hcm hs hx hr hm =>
      rw [hb] at hb'; cases hb'
      rw [hm]; simp
  have hle : Mem.le c.m m' := by
    intro b o v hv
    have : ¬ hit b o := fun hh => by rw [none_of hh] at hv; cases hv
    simp only [m', if_neg this]; exact hv
  have hcc : Cx.le c { c with m := m' } st.L (frzL st.L) := by
    refine ⟨hle, fun k hk => by rw [lk_frzL]; simpa using hk, fun _ _ _ e => e, fun k sz fz xs hk => ⟨rfl, true, xs, rfl, by rw [lk_frzL, hk]; rfl⟩⟩
  have key : ∀ {k}, (lk k (frzL st.L)).isSome = true → (lk k st.L).isSome = true := fun {k} hk => by rw [lk_frzL] at hk; simpa using hk
  have miss : ∀ {k b}, (lk k st.L).isSome = true → c.bk k = some b → (∀ sz xs, lk k st.L ≠ some (.row sz false xs)) → ∀ j, m' b j = c.m b j := by
    intro k b hk hb hne j
    have : ¬ hit b j := by
      rintro ⟨k', sz, xs, hl, hb', _⟩
      have := h.inj k k' b hk (by rw [hl]; rfl) hb hb'
      subst this
      exact hne _ _ hl
    simp only [m', if_neg this]
  refine ⟨{ c with m := m' }, ⟨h.defers, h.slots, ?_, ?_, ?_, ?_, h.mono.trans hle, h.later, fun j k b hj hk => h.inj j k b (key hj) (key hk), fun j b hj => h.fresh j b (key hj), h.foot, ?_, h.inw⟩, hcc⟩
  · intro k x hk
    obtain ⟨v, hv, hcv⟩ := h.env k x hk
    exact ⟨v, hv, hcv.mono hcc⟩
  · intro k o hk
    simp only at hk
    rw [lk_frzL] at hk
    obtain ⟨o', ho', rfl⟩ := Option.map_eq_some_iff.1 hk
    have hkS : (lk k st.L).isSome = true := by rw [ho']; rfl
    cases h.loc k o' ho' with
    | box hb hh hm hv => exact .box hb hh (fun j => by show m' _ j = none; rw [miss hkS hb (fun sz xs e => by rw [ho'] at e; cases e)]; exact hm j) (hv.mono hcc)
    | nil hv hb => exact .nil hv hb
    | @row sz fz xs b cap cur ty hz hv hb hh hc hcm hsz hx hr hm =>
      refine .row hz hv hb hh hc hcm hsz hx (hr.mono hle) fun j => ?_
      show m' b j = _
      cases fz with
      | true => rw [miss hkS hb (fun sz xs e => by rw [ho'] at e; cases e), hm]
      | false =>
        by_cases hj : j < xs.length * sz
        · have : hit b j := ⟨k, sz, xs, ho', hb, hj⟩
          simp only [m', if_pos this, hj, and_self, if_true]
          exact cell_of_row w b j cur ty _ hh
        · have : ¬ hit b j := by
            rintro ⟨k', sz', xs', hl, hb', hj'⟩
            have := h.inj k k' b hkS (by rw [hl]; rfl) hb hb'
            subst this
            rw [ho'] at hl
            cases hl
            exact hj hj'
          simp only [m', if_neg this, hj, and_false, if_false]
          rw [hm]; simp
  · refine h.heap.keep hle fun b hf => ⟨rfl, fun j => ?_⟩
    have : ¬ hit b j := by
      rintro ⟨k, sz, xs, hl, hb, _⟩
      exact (h.fresh k b (by rw [hl]; rfl) hb).2 hf
    simp only [m', if_neg this]
  · intro b o v hv
    simp only [m'] at hv
    split at hv
    · exact hv
    · exact h.agr b o v hv
  · intro b hb hf
    show m' b = _
    have : m' b = c.m b := by
      funext o
      have : ¬ hit b o := by
        rintro ⟨k, sz, xs, hl, hb', _⟩
        have := (h.fresh k b (by rw [hl]; rfl) hb').1
        omega
      simp only [m', if_neg this]
    rw [this]; exact h.old b hb hf
theorem imp_freeze (st : St) : St.imp st { st with L := frzL st.L } := fun g a w c h => let ⟨c', h1, _⟩ := h.freeze; ⟨c', h1⟩
theorem imp_forget (st : St) (i : Nat) : St.imp st { st with env := demEnv i st.env, L := demLoc i st.L } := fun g a w c h => ⟨c, h.forget i⟩

end Go.Ab
