/- The statement ReplicaAgain and its tied card: it returns true at every input, and its arguments read as before. Conditions: none. -/
import Derived.Test.YtfhhcgldikmejaaGreatDoorP7
import Derived.Test.YtfhhcgldikmejaaGreatDoorCards
/- The statement ReplicaAgain and its tied card: it returns true at every input, and its arguments read as before. Conditions: none. -/
namespace Go.Proofs.YtfhhcgldikmejaaGreatDoor
open Go Go.RowKit Go.Gv Go.ChangeShapes Go.WideShapes Go.ChangeAt

theorem ReplicaAgain_zip (os : Os) : (((World.laidAll Tryz.prog os laidL).forCall (fun _ _ => 0) ⟨#[], #[.int .i64 0, .int .i64 0], []⟩)).variablesZipB Tryz.prog = true := by kernel_rfl
theorem ReplicaAgain_rest (os : Os) : ((((World.laidAll Tryz.prog os laidL).forCall (fun _ _ => 0) ⟨#[], #[.int .i64 0, .int .i64 0], []⟩)).heap.toList.drop Tryz.prog.globals.size).take ((begin Tryz.prog (fun _ _ => 0) default).world.heap.size - Tryz.prog.globals.size) = (begin Tryz.prog (fun _ _ => 0) default).world.heap.toList.drop Tryz.prog.globals.size := by kernel_rfl
theorem ReplicaAgain_ok (os : Os) : Input.okWideB Tryz.checked.prog (((World.laidAll Tryz.prog os laidL).forCall (fun _ _ => 0) ⟨#[], #[.int .i64 0, .int .i64 0], []⟩)) 4 ⟨#[], #[.int .i64 0, .int .i64 0], []⟩ = true := by kernel_rfl
theorem ReplicaAgain_pre (os : Os) (H : Type) (enc : TypeId × Value → H) : Rows.replicaAgainSpec.preB enc Tryz.checked.prog Tryz.f4 Rows.replicaAgainRow.domain false (((World.laidAll Tryz.prog os laidL).forCall (fun _ _ => 0) ⟨#[], #[.int .i64 0, .int .i64 0], []⟩)).memory #[.int .i64 0, .int .i64 0] 8 = true := by kernel_rfl
theorem ReplicaAgain_size (os : Os) (H : Type) (enc : TypeId × Value → H) : Rows.replicaAgainSpec.sizedB enc Tryz.checked.prog Tryz.f4 false (((World.laidAll Tryz.prog os laidL).forCall (fun _ _ => 0) ⟨#[], #[.int .i64 0, .int .i64 0], []⟩)).memory #[.int .i64 0, .int .i64 0] 8 = true := by kernel_rfl

set_option maxRecDepth 100000 in
theorem ReplicaAgain_lifted (os : Os) (started : os.Started) (H : Type) (enc : TypeId × Value → H) :
    ReturnsInHanded {} Tryz.checked os 4 .any (fun w args => (Rows.replicaAgainSpec.pre enc Tryz.prog Tryz.f4 Rows.replicaAgainRow.domain false w args ∧ laidMetH Tryz.prog Rows.replicaAgainRow.laid w) ∧ sizedMet enc Tryz.prog Tryz.f4 (OpenSpec.ofChange Rows.replicaAgainSpec) false w args)
      (Rows.replicaAgainSpec.post enc Tryz.prog Tryz.f4 false true false false) := by
  refine returns_laid (C := Tryz.checked) (laid := laidL) ownK started (by kernel_rfl) Tryz.func4
    (ChangeSpec.witness_shaped (enc := enc) (C := Tryz.checked) (os := os) (X := fun w _ => laidMetH Tryz.prog laidL w) false (World.laidAll Tryz.prog os laidL) #[.int .i64 0, .int .i64 0] 8 (World.laidAll_os _ _ _)
      (World.shaped_of_ZipB (ReplicaAgain_zip os) (ReplicaAgain_rest os)) (ReplicaAgain_ok os) (ReplicaAgain_pre os H enc) (ReplicaAgain_size os H enc) (wit_laid os _)) ?_
  intro W base args ds gs before hval0 hW hL hsh
  have hval : ∀ (j : Nat) t v, Tryz.f4.params[j]? = some t → args[j]? = some v → Value.okWide Tryz.prog W .any base t v := hval0
  have hW' := hW
  obtain ⟨p, q, hA0, hV, rfl, hfz, hnd⟩ := hW
  have hA : DataW.TrodAll enc Tryz.prog W 0 (fun _ => true) true Tryz.f4.params.toList args.toList ds p := hA0
  rw [Tryz.params4] at hA hval
  obtain ⟨v0, v1, d0, d1, p0, p1, rfl, rfl, rfl, h0, h1⟩ := trodAll_two hA
  obtain ⟨rfl, rfl⟩ := trodVars_none hV
  obtain ⟨n0, rfl, hn0⟩ := arg_int (k := .i64) (by kernel_rfl) (hval 0 _ _ rfl rfl) h0
  obtain ⟨n1, rfl, hn1⟩ := arg_int (k := .i64) (by kernel_rfl) (hval 1 _ _ rfl rfl) h1
  have hcall := again_law n0 n1 W (FitI.i64 hn0).1 (FitI.i64 hn0).2 (FitI.i64 hn1).1 (FitI.i64 hn1).2
  refine hcall.mono fun e W' ⟨he, hb⟩ => ?_
  subst he
  exact ⟨_, rfl, law_post laidK (by kernel_rfl) (by kernel_rfl) (tb := 4) (by kernel_rfl) hW' rfl rfl hb⟩

theorem ReplicaAgain_named : Tryz.pinned.checked.prog.funcNamed Rows.replicaAgainRow.func = some 4 := by kernel_rfl
theorem ReplicaAgain_c0 : (Rows.replicaAgainRow.wf (OpenSpec.ofChange Rows.replicaAgainSpec)) = true := by kernel_rfl
theorem ReplicaAgain_c1 : (laidOutB Tryz.pinned.checked.prog) = true := by kernel_rfl
theorem ReplicaAgain_c2 : (mapsRowed Tryz.pinned.checked.prog) = true := by kernel_rfl
theorem ReplicaAgain_c3 : (Tryz.f4.params.all (Tryz.pinned.checked.prog.readableRec ·)) = true := by kernel_rfl
theorem ReplicaAgain_c4 : (namedTie Tryz.pinned.checked.prog Rows.replicaAgainRow.named Rows.replicaAgainSpec.vars) = true := by kernel_rfl
theorem ReplicaAgain_c5 : ((Rows.replicaAgainRow.stops == [])) = true := by kernel_rfl
theorem ReplicaAgain_c6 : ((Tryz.pinned.checked.prog.stops == [])) = true := by kernel_rfl
theorem ReplicaAgain_c7 : ((Rows.replicaAgainRow.knobs == [])) = true := by kernel_rfl
theorem ReplicaAgain_c8 : ((Tryz.pinned.checked.prog.stopKnobs == [])) = true := by kernel_rfl
theorem ReplicaAgain_c9 : ((Rows.replicaAgainRow.inPlace == Tryz.pinned.checked.prog.inPlace 4)) = true := by kernel_rfl
theorem ReplicaAgain_c10 : ((Rows.replicaAgainRow.unfollowed == Tryz.pinned.checked.prog.unfollowed 4)) = true := by kernel_rfl
theorem ReplicaAgain_c11 : ((Rows.replicaAgainRow.recurses == Tryz.pinned.checked.prog.recurses 4)) = true := by kernel_rfl
theorem ReplicaAgain_c12 : ((Rows.replicaAgainRow.named == Tryz.pinned.checked.prog.varsNamed 4)) = true := by kernel_rfl
theorem ReplicaAgain_c13 : ((Rows.replicaAgainRow.maps == (Tryz.f4.params.toList ++ Rows.replicaAgainSpec.plain.varTypes Tryz.pinned.checked.prog).any (Tryz.pinned.checked.prog.mapsRec ·))) = true := by kernel_rfl
theorem ReplicaAgain_c14 : ((Rows.replicaAgainRow.ifaces == (Tryz.f4.params.toList ++ Rows.replicaAgainSpec.plain.varTypes Tryz.pinned.checked.prog).any (Tryz.pinned.checked.prog.ifacesRec ·))) = true := by kernel_rfl
theorem ReplicaAgain_c15 : ((Rows.replicaAgainRow.mapsOut == Tryz.pinned.checked.prog.mapsAmong Tryz.f4.resultTypes.toList)) = true := by kernel_rfl
theorem ReplicaAgain_c16 : ((Rows.replicaAgainRow.loops == (Tryz.f4.params.toList ++ Rows.replicaAgainSpec.plain.varTypes Tryz.pinned.checked.prog).any (Tryz.pinned.checked.prog.loopsFrom ·))) = true := by kernel_rfl
theorem ReplicaAgain_c17 : ((Rows.replicaAgainRow.wideKeys == (Tryz.f4.params.toList ++ Rows.replicaAgainSpec.plain.varTypes Tryz.pinned.checked.prog ++ Tryz.f4.resultTypes.toList).any (Tryz.pinned.checked.prog.wideKeysFrom ·))) = true := by kernel_rfl
theorem ReplicaAgain_c18 : (Rows.replicaAgainSpec.vars.all (Tryz.pinned.checked.prog.varReadable ·)) = true := by kernel_rfl
theorem ReplicaAgain_c19 : (Tryz.f4.resultTypes.all (fun t => Tryz.pinned.checked.prog.readableRec t && decide (t < Tryz.pinned.checked.prog.types.size))) = true := by kernel_rfl
theorem ReplicaAgain_c20 : ((Rows.replicaAgainRow.ifacesOut == Tryz.f4.resultTypes.toList.any (Tryz.pinned.checked.prog.ifacesRec ·))) = true := by kernel_rfl
theorem ReplicaAgain_c21 : ((Rows.replicaAgainRow.loopsOut == Tryz.f4.resultTypes.toList.any (Tryz.pinned.checked.prog.loopsFrom ·))) = true := by kernel_rfl
theorem ReplicaAgain_c22 : ((Rows.replicaAgainRow.plainKeys == Tryz.pinned.checked.prog.plainKeys)) = true := by kernel_rfl
theorem ReplicaAgain_c23 : (Rows.replicaAgainRow.shortTexts.isNone) = true := by kernel_rfl
theorem ReplicaAgain_c24 : (Tryz.pinned.checked.prog.stopsHeard) = true := by kernel_rfl
theorem ReplicaAgain_c25 : (Tryz.pinned.checked.prog.mayEnter) = true := by kernel_rfl
theorem ReplicaAgain_c26 : ((Rows.replicaAgainRow.lifted == Tryz.pinned.checked.prog.liftsFinal)) = true := by kernel_rfl
theorem ReplicaAgain_c27 : ((Tryz.pinned.checked.prog.make == some Rows.replicaAgainRow.make)) = true := by kernel_rfl
theorem ReplicaAgain_c28 : ((Rows.replicaAgainRow.kinds == (if Rows.replicaAgainRow.domain.isEmpty then [] else Tryz.f4.params.toList.map fun t => match Tryz.pinned.checked.prog.underlying t with | some (.int k) => some k | _ => none))) = true := by kernel_rfl
theorem ReplicaAgain_c29 : ((Rows.replicaAgainRow.pinned == Rows.replicaAgainRow.pinnedBy)) = true := by kernel_rfl
theorem ReplicaAgain_c30 : ((Rows.replicaAgainRow.veiled == (Tryz.f4.params.toList ++ Rows.replicaAgainSpec.plain.varTypes Tryz.pinned.checked.prog ++ Tryz.f4.resultTypes.toList).any (Tryz.pinned.checked.prog.veiledRec ·))) = true := by kernel_rfl
theorem ReplicaAgain_c31 : (Rows.replicaAgainRow.veiledFits Tryz.pinned.checked.prog Tryz.f4.params.toList (Tryz.f4.params.toList ++ Rows.replicaAgainSpec.plain.varTypes Tryz.pinned.checked.prog ++ Tryz.f4.resultTypes.toList)) = true := by kernel_rfl
theorem and2 {a b : Bool} (ha : a = true) (hb : b = true) : (a && b) = true := by rw [ha, hb]; rfl
set_option maxRecDepth 100000 in
theorem ReplicaAgain_closed : joinedFacts Tryz.pinned.checked.prog 4 Tryz.f4 Rows.replicaAgainSpec Rows.replicaAgainRow = true := by
  unfold joinedFacts
  exact (and2 (and2 (and2 (and2 (and2 (and2 (and2 (and2 (and2 (and2 (and2 (and2 (and2 (and2 (and2 (and2 (and2 (and2 (and2 (and2 (and2 (and2 (and2 (and2 (and2 (and2 (and2 (and2 (and2 (and2 (and2 ReplicaAgain_c0 ReplicaAgain_c1) ReplicaAgain_c2) ReplicaAgain_c3) ReplicaAgain_c4) ReplicaAgain_c5) ReplicaAgain_c6) ReplicaAgain_c7) ReplicaAgain_c8) ReplicaAgain_c9) ReplicaAgain_c10) ReplicaAgain_c11) ReplicaAgain_c12) ReplicaAgain_c13) ReplicaAgain_c14) ReplicaAgain_c15) ReplicaAgain_c16) ReplicaAgain_c17) ReplicaAgain_c18) ReplicaAgain_c19) ReplicaAgain_c20) ReplicaAgain_c21) ReplicaAgain_c22) ReplicaAgain_c23) ReplicaAgain_c24) ReplicaAgain_c25) ReplicaAgain_c26) ReplicaAgain_c27) ReplicaAgain_c28) ReplicaAgain_c29) ReplicaAgain_c30) ReplicaAgain_c31)
theorem ReplicaAgain_instance : Tryz.f4.isInstance Tryz.pinned.checked.prog Rows.replicaAgainRow.origin Rows.replicaAgainRow.targs := of_decide_eq_true (by kernel_rfl)
theorem ReplicaAgain_wrapper : Tryz.f4.isWrapper Tryz.pinned.checked.prog Rows.replicaAgainRow.wrapper Rows.replicaAgainRow.mainSum := by unfold Func.isWrapper; rw [if_neg (by decide +kernel)]; exact ⟨rfl, rfl⟩

/-- The row's statement. -/
theorem ReplicaAgain_row : Rows.ReplicaAgainSaid :=
  OpenClaim.holds_of_wide 4 Tryz.f4 rfl rfl rfl rfl rfl rfl rfl ⟨rfl, rfl, rfl, rfl, rfl⟩ rfl rfl rfl rfl rfl ReplicaAgain_named Tryz.func4 ReplicaAgain_closed ReplicaAgain_instance ReplicaAgain_wrapper
    (fun os started H enc _ => ReplicaAgain_lifted os started H enc)
/-- The statement: the tied card. -/
theorem ReplicaAgain_holds : Rows.ReplicaAgainCardSaid :=
  Claim7.holds_tied_plain_at .later [] [.data, .data, .data, .data, .pinned] true (true, "7aa7149c22e1eb29a8c442b1ce7fbe9720cb29c07e3f38ccd89bccca60b45f55") true ReplicaAgain_row (fun _ h => by cases h) (by kernel_rfl) (fun _ h => by cases h) replicaAgain_row_tie rfl ⟨rfl, rfl⟩ (by kernel_rfl) rfl
    (fun f fn hf hfn => by
      obtain rfl : f = 4 := (Option.some.inj (ReplicaAgain_named.symm.trans hf)).symm
      obtain rfl : fn = Tryz.f4 := (Option.some.inj (Tryz.func4.symm.trans hfn)).symm
      exact ⟨by kernel_rfl, fun j t ht => by
        rw [Tryz.params4] at ht
        have hm : t ∈ [3, 3] := by simpa using Array.mem_of_getElem? ht
        have hall : ([3, 3].all fun u => !Tryz.prog.wantsStandIn u) = true := by kernel_rfl
        exact (show Tryz.prog.wantsStandIn t = false by simpa using List.all_eq_true.1 hall t hm)⟩)
    (goesBy_none goes_all rfl)
end Go.Proofs.YtfhhcgldikmejaaGreatDoor
