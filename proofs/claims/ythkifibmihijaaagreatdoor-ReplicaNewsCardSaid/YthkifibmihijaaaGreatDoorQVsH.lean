/- The statement ReplicaNews and its tied card: it returns true at every input, and its arguments read as before. Conditions: none. -/
import Derived.Test.YthkifibmihijaaaGreatDoorP10
import Derived.Test.YthkifibmihijaaaGreatDoorCards
/- The statement ReplicaNews and its tied card: it returns true at every input, and its arguments read as before. Conditions: none. -/
namespace Go.Proofs.YthkifibmihijaaaGreatDoor
open Go Go.RowKit Go.Gv Go.ChangeShapes Go.WideShapes Go.ChangeAt

theorem ReplicaNews_zip (os : Os) : (((World.laidAll Tryz.prog os laidL).forCall (fun _ _ => 0) ⟨#[], #[.agg #[.int .i64 0, .int .i64 0], .int .i64 0], []⟩)).variablesZipB Tryz.prog = true := by kernel_rfl
theorem ReplicaNews_rest (os : Os) : ((((World.laidAll Tryz.prog os laidL).forCall (fun _ _ => 0) ⟨#[], #[.agg #[.int .i64 0, .int .i64 0], .int .i64 0], []⟩)).heap.toList.drop Tryz.prog.globals.size).take ((begin Tryz.prog (fun _ _ => 0) default).world.heap.size - Tryz.prog.globals.size) = (begin Tryz.prog (fun _ _ => 0) default).world.heap.toList.drop Tryz.prog.globals.size := by kernel_rfl
theorem ReplicaNews_ok (os : Os) : Input.okWideB Tryz.checked.prog (((World.laidAll Tryz.prog os laidL).forCall (fun _ _ => 0) ⟨#[], #[.agg #[.int .i64 0, .int .i64 0], .int .i64 0], []⟩)) 3 ⟨#[], #[.agg #[.int .i64 0, .int .i64 0], .int .i64 0], []⟩ = true := by kernel_rfl
theorem ReplicaNews_pre (os : Os) (H : Type) (enc : TypeId × Value → H) : Rows.replicaNewsSpec.preB enc Tryz.checked.prog Tryz.f3 Rows.replicaNewsRow.domain false (((World.laidAll Tryz.prog os laidL).forCall (fun _ _ => 0) ⟨#[], #[.agg #[.int .i64 0, .int .i64 0], .int .i64 0], []⟩)).memory #[.agg #[.int .i64 0, .int .i64 0], .int .i64 0] 8 = true := by kernel_rfl
theorem ReplicaNews_size (os : Os) (H : Type) (enc : TypeId × Value → H) : Rows.replicaNewsSpec.sizedB enc Tryz.checked.prog Tryz.f3 false (((World.laidAll Tryz.prog os laidL).forCall (fun _ _ => 0) ⟨#[], #[.agg #[.int .i64 0, .int .i64 0], .int .i64 0], []⟩)).memory #[.agg #[.int .i64 0, .int .i64 0], .int .i64 0] 8 = true := by kernel_rfl

set_option maxRecDepth 100000 in
theorem ReplicaNews_lifted (os : Os) (started : os.Started) (H : Type) (enc : TypeId × Value → H) :
    ReturnsInHanded {} Tryz.checked os 3 .any (fun w args => (Rows.replicaNewsSpec.pre enc Tryz.prog Tryz.f3 Rows.replicaNewsRow.domain false w args ∧ laidMetH Tryz.prog Rows.replicaNewsRow.laid w) ∧ sizedMet enc Tryz.prog Tryz.f3 (OpenSpec.ofChange Rows.replicaNewsSpec) false w args)
      (Rows.replicaNewsSpec.post enc Tryz.prog Tryz.f3 false true false false) := by
  refine returns_laid (C := Tryz.checked) (laid := laidL) ownK started (by kernel_rfl) Tryz.func3
    (ChangeSpec.witness_shaped (enc := enc) (C := Tryz.checked) (os := os) (X := fun w _ => laidMetH Tryz.prog laidL w) false (World.laidAll Tryz.prog os laidL) #[.agg #[.int .i64 0, .int .i64 0], .int .i64 0] 8 (World.laidAll_os _ _ _)
      (World.shaped_of_ZipB (ReplicaNews_zip os) (ReplicaNews_rest os)) (ReplicaNews_ok os) (ReplicaNews_pre os H enc) (ReplicaNews_size os H enc) (wit_laid os _)) ?_
  intro W base args ds gs before hval0 hW hL hsh
  have hval : ∀ (j : Nat) t v, Tryz.f3.params[j]? = some t → args[j]? = some v → Value.okWide Tryz.prog W .any base t v := hval0
  have hW' := hW
  obtain ⟨p, q, hA0, hV, rfl, hfz, hnd⟩ := hW
  have hA : DataW.TrodAll enc Tryz.prog W 0 (fun _ => true) true Tryz.f3.params.toList args.toList ds p := hA0
  rw [Tryz.params3] at hA hval
  obtain ⟨v0, v1, d0, d1, p0, p1, rfl, rfl, rfl, h0, h1⟩ := trodAll_two hA
  obtain ⟨rfl, rfl⟩ := trodVars_none hV
  obtain ⟨y0, rfl, ho0⟩ := arg_agg uu23 (op23 W) (hval 0 _ _ rfl rfl) h0
  obtain ⟨n1, rfl, hn1⟩ := arg_int (k := .i64) (by kernel_rfl) (hval 1 _ _ rfl rfl) h1
  have hcall := news_any y0 n1 W
  rw [GConf.val_eq] at hcall
  refine hcall.mono fun e W' ⟨he, hb⟩ => ?_
  subst he
  exact ⟨_, rfl, law_post laidK (by kernel_rfl) (by kernel_rfl) (tb := 4) (by kernel_rfl) hW' rfl rfl hb⟩

theorem ReplicaNews_named : Tryz.pinned.checked.prog.funcNamed Rows.replicaNewsRow.func = some 3 := by kernel_rfl
theorem ReplicaNews_c0 : (Rows.replicaNewsRow.wf (OpenSpec.ofChange Rows.replicaNewsSpec)) = true := by kernel_rfl
theorem ReplicaNews_c1 : (laidOutB Tryz.pinned.checked.prog) = true := by kernel_rfl
theorem ReplicaNews_c2 : (mapsRowed Tryz.pinned.checked.prog) = true := by kernel_rfl
theorem ReplicaNews_c3 : (Tryz.f3.params.all (Tryz.pinned.checked.prog.readableRec ·)) = true := by kernel_rfl
theorem ReplicaNews_c4 : (namedTie Tryz.pinned.checked.prog Rows.replicaNewsRow.named Rows.replicaNewsSpec.vars) = true := by kernel_rfl
theorem ReplicaNews_c5 : ((Rows.replicaNewsRow.stops == [])) = true := by kernel_rfl
theorem ReplicaNews_c6 : ((Tryz.pinned.checked.prog.stops == [])) = true := by kernel_rfl
theorem ReplicaNews_c7 : ((Rows.replicaNewsRow.knobs == [])) = true := by kernel_rfl
theorem ReplicaNews_c8 : ((Tryz.pinned.checked.prog.stopKnobs == [])) = true := by kernel_rfl
theorem ReplicaNews_c9 : ((Rows.replicaNewsRow.inPlace == Tryz.pinned.checked.prog.inPlace 3)) = true := by kernel_rfl
theorem ReplicaNews_c10 : ((Rows.replicaNewsRow.unfollowed == Tryz.pinned.checked.prog.unfollowed 3)) = true := by kernel_rfl
theorem ReplicaNews_c11 : ((Rows.replicaNewsRow.recurses == Tryz.pinned.checked.prog.recurses 3)) = true := by kernel_rfl
theorem ReplicaNews_c12 : ((Rows.replicaNewsRow.named == Tryz.pinned.checked.prog.varsNamed 3)) = true := by kernel_rfl
theorem ReplicaNews_c13 : ((Rows.replicaNewsRow.maps == (Tryz.f3.params.toList ++ Rows.replicaNewsSpec.plain.varTypes Tryz.pinned.checked.prog).any (Tryz.pinned.checked.prog.mapsRec ·))) = true := by kernel_rfl
theorem ReplicaNews_c14 : ((Rows.replicaNewsRow.ifaces == (Tryz.f3.params.toList ++ Rows.replicaNewsSpec.plain.varTypes Tryz.pinned.checked.prog).any (Tryz.pinned.checked.prog.ifacesRec ·))) = true := by kernel_rfl
theorem ReplicaNews_c15 : ((Rows.replicaNewsRow.mapsOut == Tryz.pinned.checked.prog.mapsAmong Tryz.f3.resultTypes.toList)) = true := by kernel_rfl
theorem ReplicaNews_c16 : ((Rows.replicaNewsRow.loops == (Tryz.f3.params.toList ++ Rows.replicaNewsSpec.plain.varTypes Tryz.pinned.checked.prog).any (Tryz.pinned.checked.prog.loopsFrom ·))) = true := by kernel_rfl
theorem ReplicaNews_c17 : ((Rows.replicaNewsRow.wideKeys == (Tryz.f3.params.toList ++ Rows.replicaNewsSpec.plain.varTypes Tryz.pinned.checked.prog ++ Tryz.f3.resultTypes.toList).any (Tryz.pinned.checked.prog.wideKeysFrom ·))) = true := by kernel_rfl
theorem ReplicaNews_c18 : (Rows.replicaNewsSpec.vars.all (Tryz.pinned.checked.prog.varReadable ·)) = true := by kernel_rfl
theorem ReplicaNews_c19 : (Tryz.f3.resultTypes.all (fun t => Tryz.pinned.checked.prog.readableRec t && decide (t < Tryz.pinned.checked.prog.types.size))) = true := by kernel_rfl
theorem ReplicaNews_c20 : ((Rows.replicaNewsRow.ifacesOut == Tryz.f3.resultTypes.toList.any (Tryz.pinned.checked.prog.ifacesRec ·))) = true := by kernel_rfl
theorem ReplicaNews_c21 : ((Rows.replicaNewsRow.loopsOut == Tryz.f3.resultTypes.toList.any (Tryz.pinned.checked.prog.loopsFrom ·))) = true := by kernel_rfl
theorem ReplicaNews_c22 : ((Rows.replicaNewsRow.plainKeys == Tryz.pinned.checked.prog.plainKeys)) = true := by kernel_rfl
theorem ReplicaNews_c23 : (Rows.replicaNewsRow.shortTexts.isNone) = true := by kernel_rfl
theorem ReplicaNews_c24 : (Tryz.pinned.checked.prog.stopsHeard) = true := by kernel_rfl
theorem ReplicaNews_c25 : (Tryz.pinned.checked.prog.mayEnter) = true := by kernel_rfl
theorem ReplicaNews_c26 : ((Rows.replicaNewsRow.lifted == Tryz.pinned.checked.prog.liftsFinal)) = true := by kernel_rfl
theorem ReplicaNews_c27 : ((Tryz.pinned.checked.prog.make == some Rows.replicaNewsRow.make)) = true := by kernel_rfl
theorem ReplicaNews_c28 : ((Rows.replicaNewsRow.kinds == (if Rows.replicaNewsRow.domain.isEmpty then [] else Tryz.f3.params.toList.map fun t => match Tryz.pinned.checked.prog.underlying t with | some (.int k) => some k | _ => none))) = true := by kernel_rfl
theorem ReplicaNews_c29 : ((Rows.replicaNewsRow.pinned == Rows.replicaNewsRow.pinnedBy)) = true := by kernel_rfl
theorem ReplicaNews_c30 : ((Rows.replicaNewsRow.veiled == (Tryz.f3.params.toList ++ Rows.replicaNewsSpec.plain.varTypes Tryz.pinned.checked.prog ++ Tryz.f3.resultTypes.toList).any (Tryz.pinned.checked.prog.veiledRec ·))) = true := by kernel_rfl
theorem ReplicaNews_c31 : (Rows.replicaNewsRow.veiledFits Tryz.pinned.checked.prog Tryz.f3.params.toList (Tryz.f3.params.toList ++ Rows.replicaNewsSpec.plain.varTypes Tryz.pinned.checked.prog ++ Tryz.f3.resultTypes.toList)) = true := by kernel_rfl
theorem and2 {a b : Bool} (ha : a = true) (hb : b = true) : (a && b) = true := by rw [ha, hb]; rfl
set_option maxRecDepth 100000 in
theorem ReplicaNews_closed : joinedFacts Tryz.pinned.checked.prog 3 Tryz.f3 Rows.replicaNewsSpec Rows.replicaNewsRow = true := by
  unfold joinedFacts
  exact (and2 (and2 (and2 (and2 (and2 (and2 (and2 (and2 (and2 (and2 (and2 (and2 (and2 (and2 (and2 (and2 (and2 (and2 (and2 (and2 (and2 (and2 (and2 (and2 (and2 (and2 (and2 (and2 (and2 (and2 (and2 ReplicaNews_c0 ReplicaNews_c1) ReplicaNews_c2) ReplicaNews_c3) ReplicaNews_c4) ReplicaNews_c5) ReplicaNews_c6) ReplicaNews_c7) ReplicaNews_c8) ReplicaNews_c9) ReplicaNews_c10) ReplicaNews_c11) ReplicaNews_c12) ReplicaNews_c13) ReplicaNews_c14) ReplicaNews_c15) ReplicaNews_c16) ReplicaNews_c17) ReplicaNews_c18) ReplicaNews_c19) ReplicaNews_c20) ReplicaNews_c21) ReplicaNews_c22) ReplicaNews_c23) ReplicaNews_c24) ReplicaNews_c25) ReplicaNews_c26) ReplicaNews_c27) ReplicaNews_c28) ReplicaNews_c29) ReplicaNews_c30) ReplicaNews_c31)
theorem ReplicaNews_instance : Tryz.f3.isInstance Tryz.pinned.checked.prog Rows.replicaNewsRow.origin Rows.replicaNewsRow.targs := of_decide_eq_true (by kernel_rfl)
theorem ReplicaNews_wrapper : Tryz.f3.isWrapper Tryz.pinned.checked.prog Rows.replicaNewsRow.wrapper Rows.replicaNewsRow.mainSum := by unfold Func.isWrapper; rw [if_neg (by decide +kernel)]; exact ⟨rfl, rfl⟩

/-- The row's statement. -/
theorem ReplicaNews_row : Rows.ReplicaNewsSaid :=
  OpenClaim.holds_of_wide 3 Tryz.f3 rfl rfl rfl rfl rfl rfl rfl ⟨rfl, rfl, rfl, rfl, rfl⟩ rfl rfl rfl rfl rfl ReplicaNews_named Tryz.func3 ReplicaNews_closed ReplicaNews_instance ReplicaNews_wrapper
    (fun os started H enc _ => ReplicaNews_lifted os started H enc)
/-- The statement: the tied card. -/
theorem ReplicaNews_holds : Rows.ReplicaNewsCardSaid :=
  Claim7.holds_tied_plain_at .later [] [.data, .data, .data, .data, .pinned] true (true, "0a72644f461e3401ae22a12deba6e4d5709aa38c36e7f24560396de26a8f42ea") true ReplicaNews_row (fun _ h => by cases h) (by kernel_rfl) (fun _ h => by cases h) replicaNews_row_tie rfl ⟨rfl, rfl⟩ (by kernel_rfl) rfl
    (fun f fn hf hfn => by
      obtain rfl : f = 3 := (Option.some.inj (ReplicaNews_named.symm.trans hf)).symm
      obtain rfl : fn = Tryz.f3 := (Option.some.inj (Tryz.func3.symm.trans hfn)).symm
      exact ⟨by kernel_rfl, fun j t ht => by
        rw [Tryz.params3] at ht
        have hm : t ∈ [23, 3] := by simpa using Array.mem_of_getElem? ht
        have hall : ([23, 3].all fun u => !Tryz.prog.wantsStandIn u) = true := by kernel_rfl
        exact (show Tryz.prog.wantsStandIn t = false by simpa using List.all_eq_true.1 hall t hm)⟩)
    (goesBy_none goes_all rfl)
end Go.Proofs.YthkifibmihijaaaGreatDoor
