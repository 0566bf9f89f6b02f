/- The statement AppApart and its tied card: it returns true at every input, and its arguments read as before. Conditions: none. -/
import Derived.Test.YteockodnfempfaaGreatDoorP2
import Derived.Test.YteockodnfempfaaGreatDoorP12
import Derived.Test.YteockodnfempfaaGreatDoorCards
/- The statement AppApart and its tied card: it returns true at every input, and its arguments read as before. Conditions: none. -/
namespace Go.Proofs.YteockodnfempfaaGreatDoor
open Go Go.RowKit Go.Gv Go.ChangeShapes Go.WideShapes Go.ChangeAt

theorem AppApart_zip (os : Os) : (((World.laidAll Tryz.prog os laidL).forCall (fun _ _ => 0) ⟨#[], #[.slice none 0 0], []⟩)).variablesZipB Tryz.prog = true := by kernel_rfl
theorem AppApart_rest (os : Os) : ((((World.laidAll Tryz.prog os laidL).forCall (fun _ _ => 0) ⟨#[], #[.slice none 0 0], []⟩)).heap.toList.drop Tryz.prog.globals.size).take ((begin Tryz.prog (fun _ _ => 0) default).world.heap.size - Tryz.prog.globals.size) = (begin Tryz.prog (fun _ _ => 0) default).world.heap.toList.drop Tryz.prog.globals.size := by kernel_rfl
theorem AppApart_ok (os : Os) : Input.okWideB Tryz.checked.prog (((World.laidAll Tryz.prog os laidL).forCall (fun _ _ => 0) ⟨#[], #[.slice none 0 0], []⟩)) 6 ⟨#[], #[.slice none 0 0], []⟩ = true := by kernel_rfl
theorem AppApart_pre (os : Os) (H : Type) (enc : TypeId × Value → H) : Rows.appApartSpec.preB enc Tryz.checked.prog Tryz.f6 Rows.appApartRow.domain false (((World.laidAll Tryz.prog os laidL).forCall (fun _ _ => 0) ⟨#[], #[.slice none 0 0], []⟩)).memory #[.slice none 0 0] 8 = true := by kernel_rfl
theorem AppApart_size (os : Os) (H : Type) (enc : TypeId × Value → H) : Rows.appApartSpec.sizedB enc Tryz.checked.prog Tryz.f6 false (((World.laidAll Tryz.prog os laidL).forCall (fun _ _ => 0) ⟨#[], #[.slice none 0 0], []⟩)).memory #[.slice none 0 0] 8 = true := by kernel_rfl

set_option maxRecDepth 100000 in
theorem AppApart_lifted (os : Os) (started : os.Started) (H : Type) (enc : TypeId × Value → H) :
    ReturnsInHanded {} Tryz.checked os 6 .any (fun w args => (Rows.appApartSpec.pre enc Tryz.prog Tryz.f6 Rows.appApartRow.domain false w args ∧ laidMetH Tryz.prog Rows.appApartRow.laid w) ∧ sizedMet enc Tryz.prog Tryz.f6 (OpenSpec.ofChange Rows.appApartSpec) false w args)
      (Rows.appApartSpec.post enc Tryz.prog Tryz.f6 false true false false) := by
  refine returns_laid (C := Tryz.checked) (laid := laidL) ownK started (by kernel_rfl) Tryz.func6
    (ChangeSpec.witness_shaped (enc := enc) (C := Tryz.checked) (os := os) (X := fun w _ => laidMetH Tryz.prog laidL w) false (World.laidAll Tryz.prog os laidL) #[.slice none 0 0] 8 (World.laidAll_os _ _ _)
      (World.shaped_of_ZipB (AppApart_zip os) (AppApart_rest os)) (AppApart_ok os) (AppApart_pre os H enc) (AppApart_size os H enc) (wit_laid os _)) ?_
  intro W base args ds gs before hval0 hW hL hsh
  have hval : ∀ (j : Nat) t v, Tryz.f6.params[j]? = some t → args[j]? = some v → Value.okWide Tryz.prog W .any base t v := hval0
  have hW' := hW
  obtain ⟨p, q, hA0, hV, rfl, hfz, hnd⟩ := hW
  have hA : DataW.TrodAll enc Tryz.prog W 0 (fun _ => true) true Tryz.f6.params.toList args.toList ds p := hA0
  rw [Tryz.params6] at hA hval
  obtain ⟨v0, d0, rfl, rfl, h0⟩ := trodAll_one hA
  obtain ⟨rfl, rfl⟩ := trodVars_none hV
  obtain ⟨A0, n0, c0, rfl, x0, hx0, ho0, hc0, hm0⟩ := arg_slice Tryz.underlying22 (op22 W) (hval 0 _ _ rfl rfl) h0
  refine (apart_any A0 n0 c0 x0 W (libIs_of hL hsh) hx0 (fun x hx => ⟨FitI.i64 (ho0 x hx).1, FitI.u64 (ho0 x hx).2.1, (ho0 x hx).2.2.1⟩) (Nat.le_trans hc0 hm0)).mono fun e W' ⟨he, hb⟩ => ?_
  subst he
  exact ⟨_, rfl, law_post laidK (by kernel_rfl) (by kernel_rfl) (tb := 4) (by kernel_rfl) hW' rfl rfl hb⟩

theorem AppApart_named : Tryz.pinned.checked.prog.funcNamed Rows.appApartRow.func = some 6 := by kernel_rfl
theorem AppApart_closed : joinedFacts Tryz.pinned.checked.prog 6 Tryz.f6 Rows.appApartSpec Rows.appApartRow = true := by kernel_rfl
theorem AppApart_instance : Tryz.f6.isInstance Tryz.pinned.checked.prog Rows.appApartRow.origin Rows.appApartRow.targs := of_decide_eq_true (by kernel_rfl)
theorem AppApart_wrapper : Tryz.f6.isWrapper Tryz.pinned.checked.prog Rows.appApartRow.wrapper Rows.appApartRow.mainSum := by unfold Func.isWrapper; rw [if_neg (by decide +kernel)]; exact ⟨rfl, rfl⟩

/-- The row's statement. -/
theorem AppApart_row : Rows.AppApartSaid :=
  OpenClaim.holds_of_wide 6 Tryz.f6 rfl rfl rfl rfl rfl rfl rfl ⟨rfl, rfl, rfl, rfl, rfl⟩ rfl rfl rfl rfl rfl AppApart_named Tryz.func6 AppApart_closed AppApart_instance AppApart_wrapper
    (fun os started H enc _ => AppApart_lifted os started H enc)
/-- The statement: the tied card. -/
theorem AppApart_holds : Rows.AppApartCardSaid :=
  Claim7.holds_tied_plain_at .later [] [.data, .data, .data, .data, .pinned] true (true, "5bb5e46bce99e867be3fbdfe9e799ea9a596899ca75d40b2bc330795629eb174") true AppApart_row (fun _ h => by cases h) (by kernel_rfl) (fun _ h => by cases h) appApart_row_tie rfl ⟨rfl, rfl⟩ (by kernel_rfl) rfl
    (fun f fn hf hfn => by
      obtain rfl : f = 6 := (Option.some.inj (AppApart_named.symm.trans hf)).symm
      obtain rfl : fn = Tryz.f6 := (Option.some.inj (Tryz.func6.symm.trans hfn)).symm
      exact ⟨by kernel_rfl, fun j t ht => by
        rw [Tryz.params6] at ht
        have hm : t ∈ [22] := by simpa using Array.mem_of_getElem? ht
        have hall : ([22].all fun u => !Tryz.prog.wantsStandIn u) = true := by kernel_rfl
        exact (show Tryz.prog.wantsStandIn t = false by simpa using List.all_eq_true.1 hall t hm)⟩)
    (by kernel_rfl)
end Go.Proofs.YteockodnfempfaaGreatDoor
