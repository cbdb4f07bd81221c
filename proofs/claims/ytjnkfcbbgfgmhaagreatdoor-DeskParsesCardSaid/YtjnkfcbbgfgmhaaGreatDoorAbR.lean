/- PROVED: the tied card of the law DeskParses: whatever line and text come in, the call returns true and what there was in memory stays as it was. Conditions: those of the given row and card alone (the listed variables of the library read as the row says; the reach of the form). -/
import Derived.Test.YtjnkfcbbgfgmhaaGreatDoorAbRow
import Derived.Test.YtjnkfcbbgfgmhaaGreatDoorAbA1
import Derived.Test.YtjnkfcbbgfgmhaaGreatDoorTie
import Derived.Test.YtjnkfcbbgfgmhaaGreatDoorCards
set_option linter.unusedSimpArgs false
set_option linter.unusedVariables false
namespace Go.Proofs.YtjnkfcbbgfgmhaaGreatDoor
open Go Go.Ab Go.RowKit Go.ChangeShapes Go.ChangeMaps
set_option maxRecDepth 100000
theorem own : ownKnob Tryz.prog.godebug = none := by kernel_rfl
abbrev laidOf := Rows.deskParsesRow.laid
theorem reads_of {W : World} (h : laidMetH Tryz.prog laidOf W) {n : String} {d : DataW Unit} (hm : (n, d) ∈ laidOf) : Lib.VarReads Tryz.prog W n d := by
  rw [MakeChecks.laidMetH_plain _ _ _ (by kernel_rfl)] at h
  exact Lib.laidMet.reads h hm
theorem glob_of {W : World} (hs : W.ShapedOpen Tryz.prog) (h : laidMetH Tryz.prog laidOf W) : Glob Tryz.prog (fun _ => False) W := by
  refine Glob.mk_of (fun g hg => ?_) (fun x hx g hg => ?_) (fun x hx g hg => ?_)
  · obtain rfl := Option.some.inj ((show Tryz.prog.globalNamed "internal/bytealg.MaxLen" = some 1 by kernel_rfl).symm.trans hg)
    exact cell_of_shapedOpen_int (zero := #[.int .i64 0]) (t := 3) hs (of_decide_eq_true (by kernel_rfl)) (by kernel_rfl) rfl (by kernel_rfl) (by kernel_rfl) (by kernel_rfl)
  · simp only [globTabs, List.mem_cons, List.not_mem_nil, or_false] at hx
    rcases hx with rfl | rfl
    · exact tabIs_of_reads (g := 0) (t := 94) (e := 5) (n := 256) (by kernel_rfl) (by kernel_rfl) (by kernel_rfl) (by kernel_rfl) (by kernel_rfl) (by kernel_rfl) (reads_of h (d := Rows.laid_strings_asciiSpace) (by simp [laidOf, Rows.deskParsesRow]))
    · exact tabIs_of_reads (g := 4) (t := 113) (e := 81) (n := 20) (by kernel_rfl) (by kernel_rfl) (by kernel_rfl) (by kernel_rfl) (by kernel_rfl) (by kernel_rfl) (reads_of h (d := Rows.laid_internal_strconv_uint64pow10) (by simp [laidOf, Rows.deskParsesRow]))
  · simp only [globVars, List.mem_cons, List.not_mem_nil, or_false] at hx
    rcases hx with rfl | rfl
    · exact ifaceIs_of_reads (g := 2) (t := 53) (by kernel_rfl) (by kernel_rfl) (Tryz.underlying53) (reads_of h (d := Rows.laid_strconv_ErrSyntax) (by simp [laidOf, Rows.deskParsesRow]))
    · exact ifaceIs_of_reads (g := 3) (t := 53) (by kernel_rfl) (by kernel_rfl) (Tryz.underlying53) (reads_of h (d := Rows.laid_strconv_ErrRange) (by simp [laidOf, Rows.deskParsesRow]))
theorem law_lifted (os : Os) (started : os.Started) (H : Type) (enc : TypeId × Value → H) :
    ReturnsInHanded {} Tryz.checked os 3 .any (fun w args => (Rows.deskParsesSpec.pre enc Tryz.prog Tryz.f3 [] false w args ∧ laidMetH Tryz.prog laidOf w) ∧ sizedMet enc Tryz.prog Tryz.f3 (OpenSpec.ofChange Rows.deskParsesSpec) false w args)
      (Rows.deskParsesSpec.post enc Tryz.prog Tryz.f3 false true false false) := by
  refine handed_and_shaped (C := Tryz.checked) (X := fun w _ => laidMetH Tryz.prog laidOf w) (fun _ _ _ hh h => h.of_heap hh) own started (by kernel_rfl) Tryz.func3
    (ChangeSpec.witness_shaped (enc := enc) (C := Tryz.checked) (os := os) (X := fun w _ => laidMetH Tryz.prog laidOf w) false (World.laidAll Tryz.prog os laidOf) #[.string ⟨#[]⟩, .string ⟨#[]⟩] 8 (World.laidAll_os _ _ _)
      (World.shaped_of_ZipB (by kernel_rfl) (by kernel_rfl)) (by kernel_rfl) (by kernel_rfl) (by kernel_rfl)
      (by rw [MakeChecks.laidMetH_plain _ _ _ (by kernel_rfl)]; exact laidMet_laidAll _ (by kernel_rfl) (by kernel_rfl))) ?_
  intro W base args ds gs before hval0 hW hL hsh
  have hval : ∀ (j : Nat) t v, Tryz.f3.params[j]? = some t → args[j]? = some v → Value.okWide Tryz.prog W .any base t v := hval0
  have hW' := hW
  obtain ⟨p, q, hA0, hV, rfl, _, _⟩ := hW
  have hA : DataW.TrodAll enc Tryz.prog W 0 (fun _ => true) true Tryz.f3.params.toList args.toList ds p := hA0
  rw [Tryz.params3] at hA hval
  obtain ⟨v0, v1, d0, d1, p0, p1, rfl, rfl, rfl, h0, h1⟩ := trodAll_two hA
  obtain ⟨rfl, rfl⟩ := trodVars_none hV
  obtain ⟨s, rfl, rfl, rfl, hs⟩ := open_string Tryz.underlying9 (hval 0 9 v0 rfl rfl) h0
  obtain ⟨t, rfl, rfl, rfl, ht⟩ := open_string Tryz.underlying9 (hval 1 9 v1 rfl rfl) h1
  have hg := glob_of hsh hL
  have hstr : ∀ s : ByteArray, s.size ≤ maxLen → Reads (memOf W) (.string s) (D.str s.data.toList) := fun s hs => by
    exact .v rfl (strOk_len (l := s.data.toList) (by rw [Array.length_toList]; exact hs))
  refine ((parses37_spec noHp s.data.toList t.data.toList).law hg (vs := #[.string s, .string t]) (.cons (hstr s hs) (.cons (hstr t ht) .nil))).mono fun e W' ⟨he, hb⟩ => ?_
  subst he
  exact ⟨_, rfl, law_post (tb := 4) (by kernel_rfl) (by kernel_rfl) rfl hW' rfl (by kernel_rfl) (by kernel_rfl) hb⟩
theorem row_holds : Rows.DeskParsesSaid :=
  OpenClaim.holds_of_wide 3 Tryz.f3 rfl rfl rfl rfl rfl rfl rfl ⟨rfl, rfl, rfl, rfl, rfl⟩ rfl rfl rfl rfl rfl (by kernel_rfl) Tryz.func3 (by kernel_rfl)
    (of_decide_eq_true (by kernel_rfl)) (by unfold Func.isWrapper; first | (rw [if_pos (by decide +kernel)]; kernel_rfl) | (rw [if_neg (by decide +kernel)]; exact ⟨rfl, rfl⟩))
    (fun os started H enc _ => law_lifted os started H enc)
theorem card_holds : Rows.DeskParsesCardSaid :=
  Claim7.holds_tied_plain_at .later [] [.data, .data, .data, .data, .sentinel, .sentinel, .listed, .data, .pinned] true (true, "5191d26456624b88f5561a5bb38ec520d849086804ea461264c8cf72fac04412") true row_holds (fun _ h => by cases h) (by kernel_rfl) (fun _ h => by cases h) deskParses_row_tie rfl ⟨rfl, rfl⟩ (by kernel_rfl) rfl
    (fun f fn hf hfn => by
      obtain rfl : f = 3 := Option.some.inj ((show Tryz.prog.funcNamed "bottomry/bottomrylaw37.DeskParses" = some 3 by kernel_rfl).symm.trans hf) |>.symm
      obtain rfl : fn = Tryz.f3 := (Option.some.inj (Tryz.func3.symm.trans hfn)).symm
      exact ⟨by kernel_rfl, fun j t ht => by
        rw [Tryz.params3] at ht
        have hm : t ∈ [9, 9] := by simpa using Array.mem_of_getElem? ht
        have hall : ([9, 9].all fun u => !Tryz.prog.wantsStandIn u) = true := by kernel_rfl
        exact (show Tryz.prog.wantsStandIn t = false by simpa using List.all_eq_true.1 hall t hm)⟩)
    (by kernel_rfl)
#print axioms card_holds
end Go.Proofs.YtjnkfcbbgfgmhaaGreatDoor
