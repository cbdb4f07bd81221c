import Derived.Test.YtjnkfcbbgfgmhaaDoorAbOpen
import Derived.Test.YtjnkfcbbgfgmhaaDoorAdL2
set_option linter.unusedSimpArgs false
set_option linter.unusedVariables false
namespace Go.Ab
open Go Go.Ab Go.Proofs
set_option maxRecDepth 100000
theorem inI_of_wf {n : Int} (h : (Lit.int .i64 n).wf = true) : inI n := by
  simp only [Lit.wf, Bool.and_eq_true, decide_eq_true_eq] at h
  exact h
theorem open_stk {x : D} (h : ∃ ds, (if true = true then x = .agg ds else ds = [x]) ∧ InCL [.int .i64, .int .i64] ds) : ∃ s : Stk, x = s.enc ∧ s.inR := by
  obtain ⟨ds, hx, hi⟩ := h
  simp only [if_true] at hx
  simp only [InCL, InC] at hi
  obtain ⟨_, _, rfl, ⟨n, rfl, hn⟩, _, _, rfl, ⟨m, rfl, hm⟩, rfl⟩ := hi
  exact ⟨⟨n, m⟩, hx, inI_of_wf hn, inI_of_wf hm⟩
theorem open_stks : ∀ {xs : List D}, (∀ x ∈ xs, ∃ ds, (if true = true then x = .agg ds else ds = [x]) ∧ InCL [.int .i64, .int .i64] ds) → ∃ l : List Stk, xs = l.map Stk.enc ∧ ∀ s ∈ l, s.inR
  | [], _ => ⟨[], rfl, by simp⟩
  | x :: xs, h => by
    obtain ⟨s, rfl, hs⟩ := open_stk (h x (List.mem_cons_self ..))
    obtain ⟨l, rfl, hl⟩ := open_stks fun y hy => h y (List.mem_cons_of_mem _ hy)
    refine ⟨s :: l, rfl, fun y hy => ?_⟩
    rcases List.mem_cons.1 hy with rfl | hy
    · exact hs
    · exact hl y hy
theorem open_encS {d : D} (h : InC (.sl 2 true [.int .i64, .int .i64]) d) : ∃ l : List Stk, d = encS l ∧ ∀ s ∈ l, s.inR := by
  simp only [InC] at h
  obtain ⟨xs, rfl, _, hx⟩ := h
  obtain ⟨l, rfl, hl⟩ := open_stks hx
  exact ⟨l, rfl, hl⟩
theorem open_ints : ∀ (n : Nat) {cs : List CS} {ds : List D}, InCL (List.replicate n (.int .i64) ++ cs) ds → ∃ (l : List Int) (r : List D), l.length = n ∧ ds = l.map D.int ++ r ∧ (∀ i ∈ l, inI i) ∧ InCL cs r
  | 0, _, ds, h => ⟨[], ds, rfl, rfl, by simp, h⟩
  | n + 1, cs, ds, h => by
    rw [List.replicate_succ, List.cons_append, InCL] at h
    obtain ⟨_, r, rfl, hd, h⟩ := h
    simp only [InC] at hd
    obtain ⟨k, rfl, hk⟩ := hd
    obtain ⟨l, r, rfl, rfl, hl, hr⟩ := open_ints n h
    refine ⟨k :: l, r, rfl, rfl, fun i hi => ?_, hr⟩
    rcases List.mem_cons.1 hi with rfl | hi
    · exact inI_of_wf hk
    · exact hl i hi
abbrev cmdSh : List CS := List.replicate 20 (.int .i64) ++ [.sl 2 true [.int .i64, .int .i64], .sl 2 true [.int .i64, .int .i64]]
theorem open_cmd {ds : List D} (h : InCL cmdSh ds) : ∃ c : Cmd, D.agg ds = c.enc ∧ c.inR := by
  obtain ⟨l, r, hl, rfl, hi, hr⟩ := open_ints 20 h
  simp only [InCL] at hr
  obtain ⟨_, _, rfl, h1, _, _, rfl, h2, rfl⟩ := hr
  obtain ⟨g, rfl, hg⟩ := open_encS h1
  obtain ⟨w, rfl, hw⟩ := open_encS h2
  obtain ⟨k, l, rfl⟩ : ∃ k l', l = k :: l' := by cases l with | nil => cases hl | cons k l => exact ⟨k, l, rfl⟩
  have hl : l.length = 19 := by simpa using hl
  refine ⟨⟨k, fun i => l.getD i 0, g, w⟩, ?_, fun i hi' => ?_, hg, hw⟩
  · match l, hl with
    | [a0, a1, a2, a3, a4, a5, a6, a7, a8, a9, a10, a11, a12, a13, a14, a15, a16, a17, a18], _ => rfl
  · show inI (l.getD i 0)
    rw [List.getD_eq_getElem?_getD, List.getElem?_eq_getElem (by omega)]
    exact hi _ (List.mem_cons_of_mem _ (List.getElem_mem _))
end Go.Ab
