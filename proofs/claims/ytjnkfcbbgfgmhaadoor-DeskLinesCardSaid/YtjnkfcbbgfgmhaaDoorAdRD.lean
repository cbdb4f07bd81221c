/- PROVED: the tied card of the law DeskLines: whatever command comes in, the call returns true and what there was in memory stays as it was. Conditions: those of the given row and card alone (the listed variables of the library read as the row says; the reach of the form). -/
import Derived.Test.YtjnkfcbbgfgmhaaDoorAbOpen
import Derived.Test.YtjnkfcbbgfgmhaaDoorAdRDo
import Derived.Test.YtjnkfcbbgfgmhaaDoorTie
import Derived.Test.YtjnkfcbbgfgmhaaDoorCards
set_option linter.unusedSimpArgs false
set_option linter.unusedVariables false
namespace Go.Proofs.YtjnkfcbbgfgmhaaDoor
open Go Go.Ab Go.RowKit Go.ChangeShapes Go.ChangeMaps Go.WideShapes
set_option maxRecDepth 100000
theorem own : ownKnob Tryd.prog.godebug = none := by kernel_rfl
abbrev laidOf := Rows.deskLinesRow.laid
theorem reads_of {W : World} (h : laidMetH Tryd.prog laidOf W) {n : String} {d : DataW Unit} (hm : (n, d) ∈ laidOf) : Lib.VarReads Tryd.prog W n d := by
  rw [MakeChecks.laidMetH_plain _ _ _ (by kernel_rfl)] at h
  exact Lib.laidMet.reads h hm
theorem glob_of {W : World} (hs : W.ShapedOpen Tryd.prog) (h : laidMetH Tryd.prog laidOf W) : Glob Tryd.prog (fun _ => False) W := by
  refine Glob.mk_of (fun g hg => ?_) (fun x hx g hg => ?_) (fun x hx g hg => ?_)
  · obtain rfl := Option.some.inj ((show Tryd.prog.globalNamed "internal/bytealg.MaxLen" = some 2 by kernel_rfl).symm.trans hg)
    exact cell_of_shapedOpen_int (zero := #[.int .i64 0]) (t := 3) hs (of_decide_eq_true (by kernel_rfl)) (by kernel_rfl) rfl (by kernel_rfl) (by kernel_rfl) (by kernel_rfl)
  · simp only [globTabs, List.mem_cons, List.not_mem_nil, or_false] at hx
    rcases hx with rfl | rfl
    · exact tabIs_of_reads (g := 0) (t := 72) (e := 5) (n := 256) (by kernel_rfl) (by kernel_rfl) (by kernel_rfl) (by kernel_rfl) (by kernel_rfl) (by kernel_rfl) (reads_of h (d := Rows.laid_strings_asciiSpace) (by simp [laidOf, Rows.deskLinesRow]))
    · exact tabIs_of_reads (g := 5) (t := 116) (e := 87) (n := 20) (by kernel_rfl) (by kernel_rfl) (by kernel_rfl) (by kernel_rfl) (by kernel_rfl) (by kernel_rfl) (reads_of h (d := Rows.laid_internal_strconv_uint64pow10) (by simp [laidOf, Rows.deskLinesRow]))
  · simp only [globVars, List.mem_cons, List.not_mem_nil, or_false] at hx
    rcases hx with rfl | rfl
    · exact ifaceIs_of_reads (g := 3) (t := 54) (by kernel_rfl) (by kernel_rfl) (Tryd.underlying54) (reads_of h (d := Rows.laid_strconv_ErrSyntax) (by simp [laidOf, Rows.deskLinesRow]))
    · exact ifaceIs_of_reads (g := 4) (t := 54) (by kernel_rfl) (by kernel_rfl) (Tryd.underlying54) (reads_of h (d := Rows.laid_strconv_ErrRange) (by simp [laidOf, Rows.deskLinesRow]))
abbrev zeroCmd : Value := .agg #[.int .i64 0, .int .i64 0, .int .i64 0, .int .i64 0, .int .i64 0, .int .i64 0, .int .i64 0, .int .i64 0, .int .i64 0, .int .i64 0, .int .i64 0, .int .i64 0, .int .i64 0, .int .i64 0, .int .i64 0, .int .i64 0, .int .i64 0, .int .i64 0, .int .i64 0, .int .i64 0, .slice none 0 0, .slice none 0 0]
theorem law_lifted (os : Os) (started : os.Started) (H : Type) (enc : TypeId × Value → H) :
    ReturnsInHanded {} Tryd.checked os 3 .any (fun w args => (Rows.deskLinesSpec.pre enc Tryd.prog Tryd.f3 [] false w args ∧ laidMetH Tryd.prog laidOf w) ∧ sizedMet enc Tryd.prog Tryd.f3 (OpenSpec.ofChange Rows.deskLinesSpec) false w args)
      (Rows.deskLinesSpec.post enc Tryd.prog Tryd.f3 false true false false) := by
  refine handed_and_shaped (C := Tryd.checked) (X := fun w _ => laidMetH Tryd.prog laidOf w) (fun _ _ _ hh h => h.of_heap hh) own started (by kernel_rfl) Tryd.func3
    (ChangeSpec.witness_shaped (enc := enc) (C := Tryd.checked) (os := os) (X := fun w _ => laidMetH Tryd.prog laidOf w) false (World.laidAll Tryd.prog os laidOf) #[zeroCmd] 8 (World.laidAll_os _ _ _)
      (World.shaped_of_ZipB (by kernel_rfl) (by kernel_rfl)) (by kernel_rfl) (by kernel_rfl) (by kernel_rfl)
      (by rw [MakeChecks.laidMetH_plain _ _ _ (by kernel_rfl)]; exact laidMet_laidAll _ (by kernel_rfl) (by kernel_rfl))) ?_
  intro W base args ds gs before hval0 hW hL hsh
  have hval : ∀ (j : Nat) t v, Tryd.f3.params[j]? = some t → args[j]? = some v → Value.okWide Tryd.prog W .any base t v := hval0
  have hW' := hW
  obtain ⟨p, q, hA0, hV, rfl, _, _⟩ := hW
  have hA : DataW.TrodAll enc Tryd.prog W 0 (fun _ => true) true Tryd.f3.params.toList args.toList ds p := hA0
  rw [Tryd.params3] at hA hval
  obtain ⟨v0, d0, rfl, rfl, h0⟩ := trodAll_one hA
  obtain ⟨rfl, rfl⟩ := trodVars_none hV
  obtain ⟨cs, rfl, _⟩ := okWide_struct Tryd.underlying24 (hval 0 24 v0 rfl rfl)
  obtain ⟨fuel, h0⟩ := h0
  obtain ⟨xs, hr, hi⟩ := readsL_of_trod 8 fuel 24 cs.toList _ cmdSh h0 (by kernel_rfl)
  obtain ⟨c, he, hc⟩ := open_cmd hi
  have hg := glob_of hsh hL
  refine ((lines37_spec noHp c hc).law hg (vs := #[.agg cs]) (.cons (he ▸ .agg hr) .nil)).mono fun e W' ⟨he, hb⟩ => ?_
  subst he
  exact ⟨_, rfl, law_post (tb := 4) (by kernel_rfl) (by kernel_rfl) rfl hW' rfl (by kernel_rfl) (by kernel_rfl) hb⟩
theorem row_holds : Rows.DeskLinesSaid :=
  OpenClaim.holds_of_wide 3 Tryd.f3 rfl rfl rfl rfl rfl rfl rfl ⟨rfl, rfl, rfl, rfl, rfl⟩ rfl rfl rfl rfl rfl (by kernel_rfl) Tryd.func3 (by kernel_rfl)
    (of_decide_eq_true (by kernel_rfl)) (by unfold Func.isWrapper; first | (rw [if_pos (by decide +kernel)]; kernel_rfl) | (rw [if_neg (by decide +kernel)]; exact ⟨rfl, rfl⟩))
    (fun os started H enc _ => law_lifted os started H enc)
theorem card_holds : Rows.DeskLinesCardSaid :=
  Claim7.holds_tied_plain_at .later [] [.data, .data, .data, .data, .sentinel, .sentinel, .listed, .data, .pinned] true (true, "121905efcd81e9764724f981b1710185eac46d81543dde7f22c88241b5fd5331") true row_holds (fun _ h => by cases h) (by kernel_rfl) (fun _ h => by cases h) deskLines_row_tie rfl ⟨rfl, rfl⟩ (by kernel_rfl) rfl
    (fun f fn hf hfn => by
      obtain rfl : f = 3 := Option.some.inj ((show Tryd.prog.funcNamed "bottomry/bottomrylaw37.DeskLines" = some 3 by kernel_rfl).symm.trans hf) |>.symm
      obtain rfl : fn = Tryd.f3 := (Option.some.inj (Tryd.func3.symm.trans hfn)).symm
      exact ⟨by kernel_rfl, fun j t ht => by
        rw [Tryd.params3] at ht
        have hm : t ∈ [24] := by simpa using Array.mem_of_getElem? ht
        have hall : ([24].all fun u => !Tryd.prog.wantsStandIn u) = true := by kernel_rfl
        exact (show Tryd.prog.wantsStandIn t = false by simpa using List.all_eq_true.1 hall t hm)⟩)
    (by kernel_rfl)
#print axioms card_holds
end Go.Proofs.YtjnkfcbbgfgmhaaDoor
