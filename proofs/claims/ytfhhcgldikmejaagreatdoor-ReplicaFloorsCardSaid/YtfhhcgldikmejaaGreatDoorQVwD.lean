/- The statement ReplicaFloors and its tied card: it returns true at every input, and its arguments read as before. Conditions: none. -/
import Derived.Test.YtfhhcgldikmejaaGreatDoorP7
import Derived.Test.YtfhhcgldikmejaaGreatDoorCards
/- The statement ReplicaFloors and its tied card: it returns true at every input, and its arguments read as before. Conditions: none. -/
namespace Go.Proofs.YtfhhcgldikmejaaGreatDoor
open Go Go.RowKit Go.Gv Go.ChangeShapes Go.WideShapes Go.ChangeAt

theorem ReplicaFloors_zip (os : Os) : (((World.laidAll Tryz.prog os laidL).forCall (fun _ _ => 0) ⟨#[], #[.int .i64 0, .int .i64 0, .int .u64 0], []⟩)).variablesZipB Tryz.prog = true := by kernel_rfl
theorem ReplicaFloors_rest (os : Os) : ((((World.laidAll Tryz.prog os laidL).forCall (fun _ _ => 0) ⟨#[], #[.int .i64 0, .int .i64 0, .int .u64 0], []⟩)).heap.toList.drop Tryz.prog.globals.size).take ((begin Tryz.prog (fun _ _ => 0) default).world.heap.size - Tryz.prog.globals.size) = (begin Tryz.prog (fun _ _ => 0) default).world.heap.toList.drop Tryz.prog.globals.size := by kernel_rfl
theorem ReplicaFloors_ok (os : Os) : Input.okWideB Tryz.checked.prog (((World.laidAll Tryz.prog os laidL).forCall (fun _ _ => 0) ⟨#[], #[.int .i64 0, .int .i64 0, .int .u64 0], []⟩)) 3 ⟨#[], #[.int .i64 0, .int .i64 0, .int .u64 0], []⟩ = true := by kernel_rfl
theorem ReplicaFloors_pre (os : Os) (H : Type) (enc : TypeId × Value → H) : Rows.replicaFloorsSpec.preB enc Tryz.checked.prog Tryz.f3 Rows.replicaFloorsRow.domain false (((World.laidAll Tryz.prog os laidL).forCall (fun _ _ => 0) ⟨#[], #[.int .i64 0, .int .i64 0, .int .u64 0], []⟩)).memory #[.int .i64 0, .int .i64 0, .int .u64 0] 8 = true := by kernel_rfl
theorem ReplicaFloors_size (os : Os) (H : Type) (enc : TypeId × Value → H) : Rows.replicaFloorsSpec.sizedB enc Tryz.checked.prog Tryz.f3 false (((World.laidAll Tryz.prog os laidL).forCall (fun _ _ => 0) ⟨#[], #[.int .i64 0, .int .i64 0, .int .u64 0], []⟩)).memory #[.int .i64 0, .int .i64 0, .int .u64 0] 8 = true := by kernel_rfl

set_option maxRecDepth 100000 in
theorem ReplicaFloors_lifted (os : Os) (started : os.Started) (H : Type) (enc : TypeId × Value → H) :
    ReturnsInHanded {} Tryz.checked os 3 .any (fun w args => (Rows.replicaFloorsSpec.pre enc Tryz.prog Tryz.f3 Rows.replicaFloorsRow.domain false w args ∧ laidMetH Tryz.prog Rows.replicaFloorsRow.laid w) ∧ sizedMet enc Tryz.prog Tryz.f3 (OpenSpec.ofChange Rows.replicaFloorsSpec) false w args)
      (Rows.replicaFloorsSpec.post enc Tryz.prog Tryz.f3 false true false false) := by
  refine returns_laid (C := Tryz.checked) (laid := laidL) ownK started (by kernel_rfl) Tryz.func3
    (ChangeSpec.witness_shaped (enc := enc) (C := Tryz.checked) (os := os) (X := fun w _ => laidMetH Tryz.prog laidL w) false (World.laidAll Tryz.prog os laidL) #[.int .i64 0, .int .i64 0, .int .u64 0] 8 (World.laidAll_os _ _ _)
      (World.shaped_of_ZipB (ReplicaFloors_zip os) (ReplicaFloors_rest os)) (ReplicaFloors_ok os) (ReplicaFloors_pre os H enc) (ReplicaFloors_size os H enc) (wit_laid os _)) ?_
  intro W base args ds gs before hval0 hW hL hsh
  have hval : ∀ (j : Nat) t v, Tryz.f3.params[j]? = some t → args[j]? = some v → Value.okWide Tryz.prog W .any base t v := hval0
  have hW' := hW
  obtain ⟨p, q, hA0, hV, rfl, hfz, hnd⟩ := hW
  have hA : DataW.TrodAll enc Tryz.prog W 0 (fun _ => true) true Tryz.f3.params.toList args.toList ds p := hA0
  rw [Tryz.params3] at hA hval
  obtain ⟨v0, v1, v2, d0, d1, d2, p0, p1, p2, rfl, rfl, rfl, h0, h1, h2⟩ := trodAll_three hA
  obtain ⟨rfl, rfl⟩ := trodVars_none hV
  obtain ⟨n0, rfl, hn0⟩ := arg_int (k := .i64) (by kernel_rfl) (hval 0 _ _ rfl rfl) h0
  obtain ⟨n1, rfl, hn1⟩ := arg_int (k := .i64) (by kernel_rfl) (hval 1 _ _ rfl rfl) h1
  obtain ⟨n2, rfl, hn2⟩ := arg_int (k := .u64) (by kernel_rfl) (hval 2 _ _ rfl rfl) h2
  have hcall := floors_any n0 n1 n2 W (FitI.i64 hn0).1 (FitI.i64 hn0).2 (FitI.i64 hn1).1 (FitI.i64 hn1).2 (FitI.u64 hn2).1 (by have := (FitI.u64 hn2).2; omega)
  refine hcall.mono fun e W' ⟨he, hb⟩ => ?_
  subst he
  exact ⟨_, rfl, law_post laidK (by kernel_rfl) (by kernel_rfl) (tb := 4) (by kernel_rfl) hW' rfl rfl hb⟩

theorem ReplicaFloors_named : Tryz.pinned.checked.prog.funcNamed Rows.replicaFloorsRow.func = some 3 := by kernel_rfl
theorem ReplicaFloors_c0 : (Rows.replicaFloorsRow.wf (OpenSpec.ofChange Rows.replicaFloorsSpec)) = true := by kernel_rfl
theorem ReplicaFloors_c1 : (laidOutB Tryz.pinned.checked.prog) = true := by kernel_rfl
theorem ReplicaFloors_c2 : (mapsRowed Tryz.pinned.checked.prog) = true := by kernel_rfl
theorem ReplicaFloors_c3 : (Tryz.f3.params.all (Tryz.pinned.checked.prog.readableRec ·)) = true := by kernel_rfl
theorem ReplicaFloors_c4 : (namedTie Tryz.pinned.checked.prog Rows.replicaFloorsRow.named Rows.replicaFloorsSpec.vars) = true := by kernel_rfl
theorem ReplicaFloors_c5 : ((Rows.replicaFloorsRow.stops == [])) = true := by kernel_rfl
theorem ReplicaFloors_c6 : ((Tryz.pinned.checked.prog.stops == [])) = true := by kernel_rfl
theorem ReplicaFloors_c7 : ((Rows.replicaFloorsRow.knobs == [])) = true := by kernel_rfl
theorem ReplicaFloors_c8 : ((Tryz.pinned.checked.prog.stopKnobs == [])) = true := by kernel_rfl
theorem ReplicaFloors_c9 : ((Rows.replicaFloorsRow.inPlace == Tryz.pinned.checked.prog.inPlace 3)) = true := by kernel_rfl
theorem ReplicaFloors_c10 : ((Rows.replicaFloorsRow.unfollowed == Tryz.pinned.checked.prog.unfollowed 3)) = true := by kernel_rfl
theorem ReplicaFloors_c11 : ((Rows.replicaFloorsRow.recurses == Tryz.pinned.checked.prog.recurses 3)) = true := by kernel_rfl
theorem ReplicaFloors_c12 : ((Rows.replicaFloorsRow.named == Tryz.pinned.checked.prog.varsNamed 3)) = true := by kernel_rfl
theorem ReplicaFloors_c13 : ((Rows.replicaFloorsRow.maps == (Tryz.f3.params.toList ++ Rows.replicaFloorsSpec.plain.varTypes Tryz.pinned.checked.prog).any (Tryz.pinned.checked.prog.mapsRec ·))) = true := by kernel_rfl
theorem ReplicaFloors_c14 : ((Rows.replicaFloorsRow.ifaces == (Tryz.f3.params.toList ++ Rows.replicaFloorsSpec.plain.varTypes Tryz.pinned.checked.prog).any (Tryz.pinned.checked.prog.ifacesRec ·))) = true := by kernel_rfl
theorem ReplicaFloors_c15 : ((Rows.replicaFloorsRow.mapsOut == Tryz.pinned.checked.prog.mapsAmong Tryz.f3.resultTypes.toList)) = true := by kernel_rfl
theorem ReplicaFloors_c16 : ((Rows.replicaFloorsRow.loops == (Tryz.f3.params.toList ++ Rows.replicaFloorsSpec.plain.varTypes Tryz.pinned.checked.prog).any (Tryz.pinned.checked.prog.loopsFrom ·))) = true := by kernel_rfl
theorem ReplicaFloors_c17 : ((Rows.replicaFloorsRow.wideKeys == (Tryz.f3.params.toList ++ Rows.replicaFloorsSpec.plain.varTypes Tryz.pinned.checked.prog ++ Tryz.f3.resultTypes.toList).any (Tryz.pinned.checked.prog.wideKeysFrom ·))) = true := by kernel_rfl
theorem ReplicaFloors_c18 : (Rows.replicaFloorsSpec.vars.all (Tryz.pinned.checked.prog.varReadable ·)) = true := by kernel_rfl
theorem ReplicaFloors_c19 : (Tryz.f3.resultTypes.all (fun t => Tryz.pinned.checked.prog.readableRec t && decide (t < Tryz.pinned.checked.prog.types.size))) = true := by kernel_rfl
theorem ReplicaFloors_c20 : ((Rows.replicaFloorsRow.ifacesOut == Tryz.f3.resultTypes.toList.any (Tryz.pinned.checked.prog.ifacesRec ·))) = true := by kernel_rfl
theorem ReplicaFloors_c21 : ((Rows.replicaFloorsRow.loopsOut == Tryz.f3.resultTypes.toList.any (Tryz.pinned.checked.prog.loopsFrom ·))) = true := by kernel_rfl
theorem ReplicaFloors_c22 : ((Rows.replicaFloorsRow.plainKeys == Tryz.pinned.checked.prog.plainKeys)) = true := by kernel_rfl
theorem ReplicaFloors_c23 : (Rows.replicaFloorsRow.shortTexts.isNone) = true := by kernel_rfl
theorem ReplicaFloors_c24 : (Tryz.pinned.checked.prog.stopsHeard) = true := by kernel_rfl
theorem ReplicaFloors_c25 : (Tryz.pinned.checked.prog.mayEnter) = true := by kernel_rfl
theorem ReplicaFloors_c26 : ((Rows.replicaFloorsRow.lifted == Tryz.pinned.checked.prog.liftsFinal)) = true := by kernel_rfl
theorem ReplicaFloors_c27 : ((Tryz.pinned.checked.prog.make == some Rows.replicaFloorsRow.make)) = true := by kernel_rfl
theorem ReplicaFloors_c28 : ((Rows.replicaFloorsRow.kinds == (if Rows.replicaFloorsRow.domain.isEmpty then [] else Tryz.f3.params.toList.map fun t => match Tryz.pinned.checked.prog.underlying t with | some (.int k) => some k | _ => none))) = true := by kernel_rfl
theorem ReplicaFloors_c29 : ((Rows.replicaFloorsRow.pinned == Rows.replicaFloorsRow.pinnedBy)) = true := by kernel_rfl
theorem ReplicaFloors_c30 : ((Rows.replicaFloorsRow.veiled == (Tryz.f3.params.toList ++ Rows.replicaFloorsSpec.plain.varTypes Tryz.pinned.checked.prog ++ Tryz.f3.resultTypes.toList).any (Tryz.pinned.checked.prog.veiledRec ·))) = true := by kernel_rfl
theorem ReplicaFloors_c31 : (Rows.replicaFloorsRow.veiledFits Tryz.pinned.checked.prog Tryz.f3.params.toList (Tryz.f3.params.toList ++ Rows.replicaFloorsSpec.plain.varTypes Tryz.pinned.checked.prog ++ Tryz.f3.resultTypes.toList)) = true := by kernel_rfl
theorem and2 {a b : Bool} (ha : a = true) (hb : b = true) : (a && b) = true := by rw [ha, hb]; rfl
set_option maxRecDepth 100000 in
theorem ReplicaFloors_closed : joinedFacts Tryz.pinned.checked.prog 3 Tryz.f3 Rows.replicaFloorsSpec Rows.replicaFloorsRow = true := by
  unfold joinedFacts
  exact (and2 (and2 (and2 (and2 (and2 (and2 (and2 (and2 (and2 (and2 (and2 (and2 (and2 (and2 (and2 (and2 (and2 (and2 (and2 (and2 (and2 (and2 (and2 (and2 (and2 (and2 (and2 (and2 (and2 (and2 (and2 ReplicaFloors_c0 ReplicaFloors_c1) ReplicaFloors_c2) ReplicaFloors_c3) ReplicaFloors_c4) ReplicaFloors_c5) ReplicaFloors_c6) ReplicaFloors_c7) ReplicaFloors_c8) ReplicaFloors_c9) ReplicaFloors_c10) ReplicaFloors_c11) ReplicaFloors_c12) ReplicaFloors_c13) ReplicaFloors_c14) ReplicaFloors_c15) ReplicaFloors_c16) ReplicaFloors_c17) ReplicaFloors_c18) ReplicaFloors_c19) ReplicaFloors_c20) ReplicaFloors_c21) ReplicaFloors_c22) ReplicaFloors_c23) ReplicaFloors_c24) ReplicaFloors_c25) ReplicaFloors_c26) ReplicaFloors_c27) ReplicaFloors_c28) ReplicaFloors_c29) ReplicaFloors_c30) ReplicaFloors_c31)
theorem ReplicaFloors_instance : Tryz.f3.isInstance Tryz.pinned.checked.prog Rows.replicaFloorsRow.origin Rows.replicaFloorsRow.targs := of_decide_eq_true (by kernel_rfl)
theorem ReplicaFloors_wrapper : Tryz.f3.isWrapper Tryz.pinned.checked.prog Rows.replicaFloorsRow.wrapper Rows.replicaFloorsRow.mainSum := by unfold Func.isWrapper; rw [if_neg (by decide +kernel)]; exact ⟨rfl, rfl⟩

/-- The row's statement. -/
theorem ReplicaFloors_row : Rows.ReplicaFloorsSaid :=
  OpenClaim.holds_of_wide 3 Tryz.f3 rfl rfl rfl rfl rfl rfl rfl ⟨rfl, rfl, rfl, rfl, rfl⟩ rfl rfl rfl rfl rfl ReplicaFloors_named Tryz.func3 ReplicaFloors_closed ReplicaFloors_instance ReplicaFloors_wrapper
    (fun os started H enc _ => ReplicaFloors_lifted os started H enc)
/-- The statement: the tied card. -/
theorem ReplicaFloors_holds : Rows.ReplicaFloorsCardSaid :=
  Claim7.holds_tied_plain_at .later [] [.data, .data, .data, .data, .pinned] true (true, "7aa7149c22e1eb29a8c442b1ce7fbe9720cb29c07e3f38ccd89bccca60b45f55") true ReplicaFloors_row (fun _ h => by cases h) (by kernel_rfl) (fun _ h => by cases h) replicaFloors_row_tie rfl ⟨rfl, rfl⟩ (by kernel_rfl) rfl
    (fun f fn hf hfn => by
      obtain rfl : f = 3 := (Option.some.inj (ReplicaFloors_named.symm.trans hf)).symm
      obtain rfl : fn = Tryz.f3 := (Option.some.inj (Tryz.func3.symm.trans hfn)).symm
      exact ⟨by kernel_rfl, fun j t ht => by
        rw [Tryz.params3] at ht
        have hm : t ∈ [3, 3, 22] := by simpa using Array.mem_of_getElem? ht
        have hall : ([3, 3, 22].all fun u => !Tryz.prog.wantsStandIn u) = true := by kernel_rfl
        exact (show Tryz.prog.wantsStandIn t = false by simpa using List.all_eq_true.1 hall t hm)⟩)
    (goesBy_none goes_all rfl)
end Go.Proofs.YtfhhcgldikmejaaGreatDoor
