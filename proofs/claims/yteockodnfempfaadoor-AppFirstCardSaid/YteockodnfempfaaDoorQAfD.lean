/- The statement AppFirst and its tied card: it returns true at every input, and its arguments read as before. Conditions: none. -/
import Derived.Test.YteockodnfempfaaDoorP2
import Derived.Test.YteockodnfempfaaDoorP10
import Derived.Test.YteockodnfempfaaDoorCards
/- The statement AppFirst and its tied card: it returns true at every input, and its arguments read as before. Conditions: none. -/
namespace Go.Proofs.YteockodnfempfaaDoor
open Go Go.RowKit Go.Gv Go.ChangeShapes Go.WideShapes Go.ChangeAt

theorem AppFirst_zip (os : Os) : (((World.laidAll Tryd.prog os laidL).forCall (fun _ _ => 0) ⟨#[], #[.slice none 0 0, .bool false], []⟩)).variablesZipB Tryd.prog = true := by kernel_rfl
theorem AppFirst_rest (os : Os) : ((((World.laidAll Tryd.prog os laidL).forCall (fun _ _ => 0) ⟨#[], #[.slice none 0 0, .bool false], []⟩)).heap.toList.drop Tryd.prog.globals.size).take ((begin Tryd.prog (fun _ _ => 0) default).world.heap.size - Tryd.prog.globals.size) = (begin Tryd.prog (fun _ _ => 0) default).world.heap.toList.drop Tryd.prog.globals.size := by kernel_rfl
theorem AppFirst_ok (os : Os) : Input.okWideB Tryd.checked.prog (((World.laidAll Tryd.prog os laidL).forCall (fun _ _ => 0) ⟨#[], #[.slice none 0 0, .bool false], []⟩)) 4 ⟨#[], #[.slice none 0 0, .bool false], []⟩ = true := by kernel_rfl
theorem AppFirst_pre (os : Os) (H : Type) (enc : TypeId × Value → H) : Rows.appFirstSpec.preB enc Tryd.checked.prog Tryd.f4 Rows.appFirstRow.domain false (((World.laidAll Tryd.prog os laidL).forCall (fun _ _ => 0) ⟨#[], #[.slice none 0 0, .bool false], []⟩)).memory #[.slice none 0 0, .bool false] 8 = true := by kernel_rfl
theorem AppFirst_size (os : Os) (H : Type) (enc : TypeId × Value → H) : Rows.appFirstSpec.sizedB enc Tryd.checked.prog Tryd.f4 false (((World.laidAll Tryd.prog os laidL).forCall (fun _ _ => 0) ⟨#[], #[.slice none 0 0, .bool false], []⟩)).memory #[.slice none 0 0, .bool false] 8 = true := by kernel_rfl

set_option maxRecDepth 100000 in
theorem AppFirst_lifted (os : Os) (started : os.Started) (H : Type) (enc : TypeId × Value → H) :
    ReturnsInHanded {} Tryd.checked os 4 .any (fun w args => (Rows.appFirstSpec.pre enc Tryd.prog Tryd.f4 Rows.appFirstRow.domain false w args ∧ laidMetH Tryd.prog Rows.appFirstRow.laid w) ∧ sizedMet enc Tryd.prog Tryd.f4 (OpenSpec.ofChange Rows.appFirstSpec) false w args)
      (Rows.appFirstSpec.post enc Tryd.prog Tryd.f4 false true false false) := by
  refine returns_laid (C := Tryd.checked) (laid := laidL) ownK started (by kernel_rfl) Tryd.func4
    (ChangeSpec.witness_shaped (enc := enc) (C := Tryd.checked) (os := os) (X := fun w _ => laidMetH Tryd.prog laidL w) false (World.laidAll Tryd.prog os laidL) #[.slice none 0 0, .bool false] 8 (World.laidAll_os _ _ _)
      (World.shaped_of_ZipB (AppFirst_zip os) (AppFirst_rest os)) (AppFirst_ok os) (AppFirst_pre os H enc) (AppFirst_size os H enc) (wit_laid os _)) ?_
  intro W base args ds gs before hval0 hW hL hsh
  have hval : ∀ (j : Nat) t v, Tryd.f4.params[j]? = some t → args[j]? = some v → Value.okWide Tryd.prog W .any base t v := hval0
  have hW' := hW
  obtain ⟨p, q, hA0, hV, rfl, hfz, hnd⟩ := hW
  have hA : DataW.TrodAll enc Tryd.prog W 0 (fun _ => true) true Tryd.f4.params.toList args.toList ds p := hA0
  rw [Tryd.params4] at hA hval
  obtain ⟨v0, v1, d0, d1, p0, p1, rfl, rfl, rfl, h0, h1⟩ := trodAll_two hA
  obtain ⟨rfl, rfl⟩ := trodVars_none hV
  obtain ⟨A0, n0, c0, rfl, x0, hx0, ho0, hc0, hm0⟩ := arg_slice Tryd.underlying22 (op22 W) (hval 0 _ _ rfl rfl) h0
  obtain ⟨b1, rfl⟩ := arg_bool (by kernel_rfl) (hval 1 _ _ rfl rfl)
  refine (first_any A0 n0 c0 x0 b1 W (libIs_of hL hsh) hx0 (fun x hx => ⟨(FitI.i64 (ho0 x hx)).1, (FitI.i64 (ho0 x hx)).2⟩) (Nat.le_trans hc0 hm0)).mono fun e W' ⟨he, hb⟩ => ?_
  subst he
  exact ⟨_, rfl, law_post laidK (by kernel_rfl) (by kernel_rfl) (tb := 4) (by kernel_rfl) hW' rfl rfl hb⟩

theorem AppFirst_named : Tryd.pinned.checked.prog.funcNamed Rows.appFirstRow.func = some 4 := by kernel_rfl
theorem AppFirst_closed : joinedFacts Tryd.pinned.checked.prog 4 Tryd.f4 Rows.appFirstSpec Rows.appFirstRow = true := by kernel_rfl
theorem AppFirst_instance : Tryd.f4.isInstance Tryd.pinned.checked.prog Rows.appFirstRow.origin Rows.appFirstRow.targs := of_decide_eq_true (by kernel_rfl)
theorem AppFirst_wrapper : Tryd.f4.isWrapper Tryd.pinned.checked.prog Rows.appFirstRow.wrapper Rows.appFirstRow.mainSum := by unfold Func.isWrapper; rw [if_neg (by decide +kernel)]; exact ⟨rfl, rfl⟩

/-- The row's statement. -/
theorem AppFirst_row : Rows.AppFirstSaid :=
  OpenClaim.holds_of_wide 4 Tryd.f4 rfl rfl rfl rfl rfl rfl rfl ⟨rfl, rfl, rfl, rfl, rfl⟩ rfl rfl rfl rfl rfl AppFirst_named Tryd.func4 AppFirst_closed AppFirst_instance AppFirst_wrapper
    (fun os started H enc _ => AppFirst_lifted os started H enc)
/-- The statement: the tied card. -/
theorem AppFirst_holds : Rows.AppFirstCardSaid :=
  Claim7.holds_tied_plain_at .later [] [.data, .data, .data, .data, .pinned] true (true, "ba64c6d4d5cf4b72b872a512fa665cfe33afe478ccb54c29b17ae3c06dcb5912") false AppFirst_row (fun _ h => by cases h) (by kernel_rfl) (fun _ h => by cases h) appFirst_row_tie rfl ⟨rfl, rfl⟩ (by kernel_rfl) rfl
    (fun f fn hf hfn => by
      obtain rfl : f = 4 := (Option.some.inj (AppFirst_named.symm.trans hf)).symm
      obtain rfl : fn = Tryd.f4 := (Option.some.inj (Tryd.func4.symm.trans hfn)).symm
      exact ⟨by kernel_rfl, fun j t ht => by
        rw [Tryd.params4] at ht
        have hm : t ∈ [22, 4] := by simpa using Array.mem_of_getElem? ht
        have hall : ([22, 4].all fun u => !Tryd.prog.wantsStandIn u) = true := by kernel_rfl
        exact (show Tryd.prog.wantsStandIn t = false by simpa using List.all_eq_true.1 hall t hm)⟩)
    (by kernel_rfl)
end Go.Proofs.YteockodnfempfaaDoor
