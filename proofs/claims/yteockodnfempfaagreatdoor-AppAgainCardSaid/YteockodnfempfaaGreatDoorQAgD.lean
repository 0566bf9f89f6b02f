/- The statement AppAgain and its tied card: it returns true at every input, and its arguments read as before. Conditions: none. -/
import Derived.Test.YteockodnfempfaaGreatDoorP2
import Derived.Test.YteockodnfempfaaGreatDoorP10
import Derived.Test.YteockodnfempfaaGreatDoorCards
/- The statement AppAgain and its tied card: it returns true at every input, and its arguments read as before. Conditions: none. -/
namespace Go.Proofs.YteockodnfempfaaGreatDoor
open Go Go.RowKit Go.Gv Go.ChangeShapes Go.WideShapes Go.ChangeAt

theorem AppAgain_zip (os : Os) : ((World.laidAll Tryz.prog os laidL).forCall (fun _ _ => 0) ⟨#[], #[.slice none 0 0, .int .i64 0], []⟩).variablesZipB Tryz.prog = true := by kernel_rfl
theorem AppAgain_rest (os : Os) : (((World.laidAll Tryz.prog os laidL).forCall (fun _ _ => 0) ⟨#[], #[.slice none 0 0, .int .i64 0], []⟩).heap.toList.drop Tryz.prog.globals.size).take ((begin Tryz.prog (fun _ _ => 0) default).world.heap.size - Tryz.prog.globals.size) = (begin Tryz.prog (fun _ _ => 0) default).world.heap.toList.drop Tryz.prog.globals.size := by kernel_rfl
theorem AppAgain_ok (os : Os) : Input.okWideB Tryz.checked.prog ((World.laidAll Tryz.prog os laidL).forCall (fun _ _ => 0) ⟨#[], #[.slice none 0 0, .int .i64 0], []⟩) 3 ⟨#[], #[.slice none 0 0, .int .i64 0], []⟩ = true := by kernel_rfl
theorem AppAgain_pre (os : Os) (H : Type) (enc : TypeId × Value → H) : Rows.appAgainSpec.preB enc Tryz.checked.prog Tryz.f3 Rows.appAgainRow.domain false ((World.laidAll Tryz.prog os laidL).forCall (fun _ _ => 0) ⟨#[], #[.slice none 0 0, .int .i64 0], []⟩).memory #[.slice none 0 0, .int .i64 0] 8 = true := by kernel_rfl
theorem AppAgain_size (os : Os) (H : Type) (enc : TypeId × Value → H) : Rows.appAgainSpec.sizedB enc Tryz.checked.prog Tryz.f3 false ((World.laidAll Tryz.prog os laidL).forCall (fun _ _ => 0) ⟨#[], #[.slice none 0 0, .int .i64 0], []⟩).memory #[.slice none 0 0, .int .i64 0] 8 = true := by kernel_rfl

set_option maxRecDepth 100000 in
theorem AppAgain_lifted (os : Os) (started : os.Started) (H : Type) (enc : TypeId × Value → H) :
    ReturnsInHanded {} Tryz.checked os 3 .any (fun w args => (Rows.appAgainSpec.pre enc Tryz.prog Tryz.f3 Rows.appAgainRow.domain false w args ∧ laidMetH Tryz.prog Rows.appAgainRow.laid w) ∧ sizedMet enc Tryz.prog Tryz.f3 (OpenSpec.ofChange Rows.appAgainSpec) false w args)
      (Rows.appAgainSpec.post enc Tryz.prog Tryz.f3 false true false false) := by
  refine returns_laid (C := Tryz.checked) (laid := laidL) ownK started (by kernel_rfl) Tryz.func3
    (ChangeSpec.witness_shaped (enc := enc) (C := Tryz.checked) (os := os) (X := fun w _ => laidMetH Tryz.prog laidL w) false (World.laidAll Tryz.prog os laidL) #[.slice none 0 0, .int .i64 0] 8 (World.laidAll_os _ _ _)
      (World.shaped_of_ZipB (AppAgain_zip os) (AppAgain_rest os)) (AppAgain_ok os) (AppAgain_pre os H enc) (AppAgain_size os H enc) (wit_laid os _)) ?_
  intro W base args ds gs before hval0 hW hL hsh
  have hval : ∀ (j : Nat) t v, Tryz.f3.params[j]? = some t → args[j]? = some v → Value.okWide Tryz.prog W .any base t v := hval0
  have hW' := hW
  obtain ⟨p, q, hA0, hV, rfl, hfz, hnd⟩ := hW
  have hA : DataW.TrodAll enc Tryz.prog W 0 (fun _ => true) true Tryz.f3.params.toList args.toList ds p := hA0
  rw [Tryz.params3] at hA hval
  obtain ⟨v0, v1, d0, d1, p0, p1, rfl, rfl, rfl, h0, h1⟩ := trodAll_two hA
  obtain ⟨rfl, rfl⟩ := trodVars_none hV
  obtain ⟨A0, n0, c0, rfl, x0, hx0, ho0, hc0, hm0⟩ := arg_slice Tryz.underlying22 (op22 W) (hval 0 _ _ rfl rfl) h0
  obtain ⟨n1, rfl, hn1⟩ := arg_int (k := .i64) (by kernel_rfl) (hval 1 _ _ rfl rfl) h1
  refine (again_any A0 n0 c0 x0 n1 W (libIs_of hL hsh) hx0 (fun x hx => ⟨FitI.i64 (ho0 x hx).1, FitI.u64 (ho0 x hx).2.1, (ho0 x hx).2.2.1⟩) (Nat.le_trans hc0 hm0) (FitI.i64 hn1).1 (FitI.i64 hn1).2).mono fun e W' ⟨he, hb⟩ => ?_
  subst he
  exact ⟨_, rfl, law_post laidK (by kernel_rfl) (by kernel_rfl) (tb := 4) (by kernel_rfl) hW' rfl rfl hb⟩

theorem AppAgain_named : Tryz.pinned.checked.prog.funcNamed Rows.appAgainRow.func = some 3 := by kernel_rfl
theorem AppAgain_closed : joinedFacts Tryz.pinned.checked.prog 3 Tryz.f3 Rows.appAgainSpec Rows.appAgainRow = true := by kernel_rfl
theorem AppAgain_instance : Tryz.f3.isInstance Tryz.pinned.checked.prog Rows.appAgainRow.origin Rows.appAgainRow.targs := of_decide_eq_true (by kernel_rfl)
theorem AppAgain_wrapper : Tryz.f3.isWrapper Tryz.pinned.checked.prog Rows.appAgainRow.wrapper Rows.appAgainRow.mainSum := by unfold Func.isWrapper; rw [if_neg (by decide +kernel)]; exact ⟨rfl, rfl⟩

/-- The row's statement. -/
theorem AppAgain_row : Rows.AppAgainSaid :=
  OpenClaim.holds_of_wide 3 Tryz.f3 rfl rfl rfl rfl rfl rfl rfl ⟨rfl, rfl, rfl, rfl, rfl⟩ rfl rfl rfl rfl rfl AppAgain_named Tryz.func3 AppAgain_closed AppAgain_instance AppAgain_wrapper
    (fun os started H enc _ => AppAgain_lifted os started H enc)
/-- The statement: the tied card. -/
theorem AppAgain_holds : Rows.AppAgainCardSaid :=
  Claim7.holds_tied_plain_at .later [] [.data, .data, .data, .data, .pinned] true (true, "5bb5e46bce99e867be3fbdfe9e799ea9a596899ca75d40b2bc330795629eb174") true AppAgain_row (fun _ h => by cases h) (by kernel_rfl) (fun _ h => by cases h) appAgain_row_tie rfl ⟨rfl, rfl⟩ (by kernel_rfl) rfl
    (fun f fn hf hfn => by
      obtain rfl : f = 3 := (Option.some.inj (AppAgain_named.symm.trans hf)).symm
      obtain rfl : fn = Tryz.f3 := (Option.some.inj (Tryz.func3.symm.trans hfn)).symm
      exact ⟨by kernel_rfl, fun j t ht => by
        rw [Tryz.params3] at ht
        have hm : t ∈ [22, 3] := by simpa using Array.mem_of_getElem? ht
        have hall : ([22, 3].all fun u => !Tryz.prog.wantsStandIn u) = true := by kernel_rfl
        exact (show Tryz.prog.wantsStandIn t = false by simpa using List.all_eq_true.1 hall t hm)⟩)
    (by kernel_rfl)
end Go.Proofs.YteockodnfempfaaGreatDoor
