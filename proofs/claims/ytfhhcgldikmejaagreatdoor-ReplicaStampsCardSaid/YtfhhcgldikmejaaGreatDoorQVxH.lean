/- The statement ReplicaStamps and its tied card: it returns true at every input, and its arguments read as before. Conditions: none. -/
import Derived.Test.YtfhhcgldikmejaaGreatDoorP11
import Derived.Test.YtfhhcgldikmejaaGreatDoorP10
import Derived.Test.YtfhhcgldikmejaaGreatDoorCards
/- The statement ReplicaStamps and its tied card: it returns true at every input, and its arguments read as before. Conditions: none. -/
namespace Go.Proofs.YtfhhcgldikmejaaGreatDoor
open Go Go.RowKit Go.Gv Go.ChangeShapes Go.WideShapes Go.ChangeAt

theorem ReplicaStamps_zip (os : Os) : (((World.laidAll Tryz.prog os laidL).forCall (fun _ _ => 0) ⟨#[], #[.agg #[.int .i64 0, .int .i64 0], .slice none 0 0, .slice none 0 0, .int .i64 0], []⟩)).variablesZipB Tryz.prog = true := by kernel_rfl
theorem ReplicaStamps_rest (os : Os) : ((((World.laidAll Tryz.prog os laidL).forCall (fun _ _ => 0) ⟨#[], #[.agg #[.int .i64 0, .int .i64 0], .slice none 0 0, .slice none 0 0, .int .i64 0], []⟩)).heap.toList.drop Tryz.prog.globals.size).take ((begin Tryz.prog (fun _ _ => 0) default).world.heap.size - Tryz.prog.globals.size) = (begin Tryz.prog (fun _ _ => 0) default).world.heap.toList.drop Tryz.prog.globals.size := by kernel_rfl
theorem ReplicaStamps_ok (os : Os) : Input.okWideB Tryz.checked.prog (((World.laidAll Tryz.prog os laidL).forCall (fun _ _ => 0) ⟨#[], #[.agg #[.int .i64 0, .int .i64 0], .slice none 0 0, .slice none 0 0, .int .i64 0], []⟩)) 5 ⟨#[], #[.agg #[.int .i64 0, .int .i64 0], .slice none 0 0, .slice none 0 0, .int .i64 0], []⟩ = true := by kernel_rfl
theorem ReplicaStamps_pre (os : Os) (H : Type) (enc : TypeId × Value → H) : Rows.replicaStampsSpec.preB enc Tryz.checked.prog Tryz.f5 Rows.replicaStampsRow.domain false (((World.laidAll Tryz.prog os laidL).forCall (fun _ _ => 0) ⟨#[], #[.agg #[.int .i64 0, .int .i64 0], .slice none 0 0, .slice none 0 0, .int .i64 0], []⟩)).memory #[.agg #[.int .i64 0, .int .i64 0], .slice none 0 0, .slice none 0 0, .int .i64 0] 8 = true := by kernel_rfl
theorem ReplicaStamps_size (os : Os) (H : Type) (enc : TypeId × Value → H) : Rows.replicaStampsSpec.sizedB enc Tryz.checked.prog Tryz.f5 false (((World.laidAll Tryz.prog os laidL).forCall (fun _ _ => 0) ⟨#[], #[.agg #[.int .i64 0, .int .i64 0], .slice none 0 0, .slice none 0 0, .int .i64 0], []⟩)).memory #[.agg #[.int .i64 0, .int .i64 0], .slice none 0 0, .slice none 0 0, .int .i64 0] 8 = true := by kernel_rfl

set_option maxRecDepth 100000 in
theorem ReplicaStamps_lifted (os : Os) (started : os.Started) (H : Type) (enc : TypeId × Value → H) :
    ReturnsInHanded {} Tryz.checked os 5 .any (fun w args => (Rows.replicaStampsSpec.pre enc Tryz.prog Tryz.f5 Rows.replicaStampsRow.domain false w args ∧ laidMetH Tryz.prog Rows.replicaStampsRow.laid w) ∧ sizedMet enc Tryz.prog Tryz.f5 (OpenSpec.ofChange Rows.replicaStampsSpec) false w args)
      (Rows.replicaStampsSpec.post enc Tryz.prog Tryz.f5 false true false false) := by
  refine returns_laid (C := Tryz.checked) (laid := laidL) ownK started (by kernel_rfl) Tryz.func5
    (ChangeSpec.witness_shaped (enc := enc) (C := Tryz.checked) (os := os) (X := fun w _ => laidMetH Tryz.prog laidL w) false (World.laidAll Tryz.prog os laidL) #[.agg #[.int .i64 0, .int .i64 0], .slice none 0 0, .slice none 0 0, .int .i64 0] 8 (World.laidAll_os _ _ _)
      (World.shaped_of_ZipB (ReplicaStamps_zip os) (ReplicaStamps_rest os)) (ReplicaStamps_ok os) (ReplicaStamps_pre os H enc) (ReplicaStamps_size os H enc) (wit_laid os _)) ?_
  intro W base args ds gs before hval0 hW hL hsh
  have hval : ∀ (j : Nat) t v, Tryz.f5.params[j]? = some t → args[j]? = some v → Value.okWide Tryz.prog W .any base t v := hval0
  have hW' := hW
  obtain ⟨p, q, hA0, hV, rfl, hfz, hnd⟩ := hW
  have hA : DataW.TrodAll enc Tryz.prog W 0 (fun _ => true) true Tryz.f5.params.toList args.toList ds p := hA0
  rw [Tryz.params5] at hA hval
  obtain ⟨v0, v1, v2, v3, d0, d1, d2, d3, p0, p1, p2, p3, rfl, rfl, rfl, h0, h1, h2, h3⟩ := trodAll_four hA
  obtain ⟨rfl, rfl⟩ := trodVars_none hV
  obtain ⟨y0, rfl, ho0⟩ := arg_agg uu33 (op33 W) (hval 0 _ _ rfl rfl) h0
  obtain ⟨A1, n1, c1, rfl, x1, hx1, ho1, hc1, hm1⟩ := arg_slice Tryz.underlying61 (op61 W) (hval 1 _ _ rfl rfl) h1
  obtain ⟨A2, n2, c2, rfl, x2, hx2, ho2, hc2, hm2⟩ := arg_slice Tryz.underlying61 (op61 W) (hval 2 _ _ rfl rfl) h2
  obtain ⟨n3, rfl, hn3⟩ := arg_int (k := .i64) (by kernel_rfl) (hval 3 _ _ rfl rfl) h3
  have hcall := stamps_any y0 A1 A2 n1 c1 n2 c2 x1 x2 n3 W (FitI.i64 ho0.1).1 (FitI.i64 ho0.1).2 (FitI.i64 ho0.2).1 (FitI.i64 ho0.2).2 (FitI.i64 hn3).1 (FitI.i64 hn3).2 hx1 hx2 ⟨hc1, hm1⟩ ⟨hc2, hm2⟩
  rw [GName.val_eq] at hcall
  refine hcall.mono fun e W' ⟨he, hb⟩ => ?_
  subst he
  exact ⟨_, rfl, law_post laidK (by kernel_rfl) (by kernel_rfl) (tb := 4) (by kernel_rfl) hW' rfl rfl hb⟩

theorem ReplicaStamps_named : Tryz.pinned.checked.prog.funcNamed Rows.replicaStampsRow.func = some 5 := by kernel_rfl
theorem ReplicaStamps_c0 : (Rows.replicaStampsRow.wf (OpenSpec.ofChange Rows.replicaStampsSpec)) = true := by kernel_rfl
theorem ReplicaStamps_c1 : (laidOutB Tryz.pinned.checked.prog) = true := by kernel_rfl
theorem ReplicaStamps_c2 : (mapsRowed Tryz.pinned.checked.prog) = true := by kernel_rfl
theorem ReplicaStamps_c3 : (Tryz.f5.params.all (Tryz.pinned.checked.prog.readableRec ·)) = true := by kernel_rfl
theorem ReplicaStamps_c4 : (namedTie Tryz.pinned.checked.prog Rows.replicaStampsRow.named Rows.replicaStampsSpec.vars) = true := by kernel_rfl
theorem ReplicaStamps_c5 : ((Rows.replicaStampsRow.stops == [])) = true := by kernel_rfl
theorem ReplicaStamps_c6 : ((Tryz.pinned.checked.prog.stops == [])) = true := by kernel_rfl
theorem ReplicaStamps_c7 : ((Rows.replicaStampsRow.knobs == [])) = true := by kernel_rfl
theorem ReplicaStamps_c8 : ((Tryz.pinned.checked.prog.stopKnobs == [])) = true := by kernel_rfl
theorem ReplicaStamps_c9 : ((Rows.replicaStampsRow.inPlace == Tryz.pinned.checked.prog.inPlace 5)) = true := by kernel_rfl
theorem ReplicaStamps_c10 : ((Rows.replicaStampsRow.unfollowed == Tryz.pinned.checked.prog.unfollowed 5)) = true := by kernel_rfl
theorem ReplicaStamps_c11 : ((Rows.replicaStampsRow.recurses == Tryz.pinned.checked.prog.recurses 5)) = true := by kernel_rfl
theorem ReplicaStamps_c12 : ((Rows.replicaStampsRow.named == Tryz.pinned.checked.prog.varsNamed 5)) = true := by kernel_rfl
theorem ReplicaStamps_c13 : ((Rows.replicaStampsRow.maps == (Tryz.f5.params.toList ++ Rows.replicaStampsSpec.plain.varTypes Tryz.pinned.checked.prog).any (Tryz.pinned.checked.prog.mapsRec ·))) = true := by kernel_rfl
theorem ReplicaStamps_c14 : ((Rows.replicaStampsRow.ifaces == (Tryz.f5.params.toList ++ Rows.replicaStampsSpec.plain.varTypes Tryz.pinned.checked.prog).any (Tryz.pinned.checked.prog.ifacesRec ·))) = true := by kernel_rfl
theorem ReplicaStamps_c15 : ((Rows.replicaStampsRow.mapsOut == Tryz.pinned.checked.prog.mapsAmong Tryz.f5.resultTypes.toList)) = true := by kernel_rfl
theorem ReplicaStamps_c16 : ((Rows.replicaStampsRow.loops == (Tryz.f5.params.toList ++ Rows.replicaStampsSpec.plain.varTypes Tryz.pinned.checked.prog).any (Tryz.pinned.checked.prog.loopsFrom ·))) = true := by kernel_rfl
theorem ReplicaStamps_c17 : ((Rows.replicaStampsRow.wideKeys == (Tryz.f5.params.toList ++ Rows.replicaStampsSpec.plain.varTypes Tryz.pinned.checked.prog ++ Tryz.f5.resultTypes.toList).any (Tryz.pinned.checked.prog.wideKeysFrom ·))) = true := by kernel_rfl
theorem ReplicaStamps_c18 : (Rows.replicaStampsSpec.vars.all (Tryz.pinned.checked.prog.varReadable ·)) = true := by kernel_rfl
theorem ReplicaStamps_c19 : (Tryz.f5.resultTypes.all (fun t => Tryz.pinned.checked.prog.readableRec t && decide (t < Tryz.pinned.checked.prog.types.size))) = true := by kernel_rfl
theorem ReplicaStamps_c20 : ((Rows.replicaStampsRow.ifacesOut == Tryz.f5.resultTypes.toList.any (Tryz.pinned.checked.prog.ifacesRec ·))) = true := by kernel_rfl
theorem ReplicaStamps_c21 : ((Rows.replicaStampsRow.loopsOut == Tryz.f5.resultTypes.toList.any (Tryz.pinned.checked.prog.loopsFrom ·))) = true := by kernel_rfl
theorem ReplicaStamps_c22 : ((Rows.replicaStampsRow.plainKeys == Tryz.pinned.checked.prog.plainKeys)) = true := by kernel_rfl
theorem ReplicaStamps_c23 : (Rows.replicaStampsRow.shortTexts.isNone) = true := by kernel_rfl
theorem ReplicaStamps_c24 : (Tryz.pinned.checked.prog.stopsHeard) = true := by kernel_rfl
theorem ReplicaStamps_c25 : (Tryz.pinned.checked.prog.mayEnter) = true := by kernel_rfl
theorem ReplicaStamps_c26 : ((Rows.replicaStampsRow.lifted == Tryz.pinned.checked.prog.liftsFinal)) = true := by kernel_rfl
theorem ReplicaStamps_c27 : ((Tryz.pinned.checked.prog.make == some Rows.replicaStampsRow.make)) = true := by kernel_rfl
theorem ReplicaStamps_c28 : ((Rows.replicaStampsRow.kinds == (if Rows.replicaStampsRow.domain.isEmpty then [] else Tryz.f5.params.toList.map fun t => match Tryz.pinned.checked.prog.underlying t with | some (.int k) => some k | _ => none))) = true := by kernel_rfl
theorem ReplicaStamps_c29 : ((Rows.replicaStampsRow.pinned == Rows.replicaStampsRow.pinnedBy)) = true := by kernel_rfl
theorem ReplicaStamps_c30 : ((Rows.replicaStampsRow.veiled == (Tryz.f5.params.toList ++ Rows.replicaStampsSpec.plain.varTypes Tryz.pinned.checked.prog ++ Tryz.f5.resultTypes.toList).any (Tryz.pinned.checked.prog.veiledRec ·))) = true := by kernel_rfl
theorem ReplicaStamps_c31 : (Rows.replicaStampsRow.veiledFits Tryz.pinned.checked.prog Tryz.f5.params.toList (Tryz.f5.params.toList ++ Rows.replicaStampsSpec.plain.varTypes Tryz.pinned.checked.prog ++ Tryz.f5.resultTypes.toList)) = true := by kernel_rfl
theorem and2 {a b : Bool} (ha : a = true) (hb : b = true) : (a && b) = true := by rw [ha, hb]; rfl
set_option maxRecDepth 100000 in
theorem ReplicaStamps_closed : joinedFacts Tryz.pinned.checked.prog 5 Tryz.f5 Rows.replicaStampsSpec Rows.replicaStampsRow = true := by
  unfold joinedFacts
  exact (and2 (and2 (and2 (and2 (and2 (and2 (and2 (and2 (and2 (and2 (and2 (and2 (and2 (and2 (and2 (and2 (and2 (and2 (and2 (and2 (and2 (and2 (and2 (and2 (and2 (and2 (and2 (and2 (and2 (and2 (and2 ReplicaStamps_c0 ReplicaStamps_c1) ReplicaStamps_c2) ReplicaStamps_c3) ReplicaStamps_c4) ReplicaStamps_c5) ReplicaStamps_c6) ReplicaStamps_c7) ReplicaStamps_c8) ReplicaStamps_c9) ReplicaStamps_c10) ReplicaStamps_c11) ReplicaStamps_c12) ReplicaStamps_c13) ReplicaStamps_c14) ReplicaStamps_c15) ReplicaStamps_c16) ReplicaStamps_c17) ReplicaStamps_c18) ReplicaStamps_c19) ReplicaStamps_c20) ReplicaStamps_c21) ReplicaStamps_c22) ReplicaStamps_c23) ReplicaStamps_c24) ReplicaStamps_c25) ReplicaStamps_c26) ReplicaStamps_c27) ReplicaStamps_c28) ReplicaStamps_c29) ReplicaStamps_c30) ReplicaStamps_c31)
theorem ReplicaStamps_instance : Tryz.f5.isInstance Tryz.pinned.checked.prog Rows.replicaStampsRow.origin Rows.replicaStampsRow.targs := of_decide_eq_true (by kernel_rfl)
theorem ReplicaStamps_wrapper : Tryz.f5.isWrapper Tryz.pinned.checked.prog Rows.replicaStampsRow.wrapper Rows.replicaStampsRow.mainSum := by unfold Func.isWrapper; rw [if_neg (by decide +kernel)]; exact ⟨rfl, rfl⟩

/-- The row's statement. -/
theorem ReplicaStamps_row : Rows.ReplicaStampsSaid :=
  OpenClaim.holds_of_wide 5 Tryz.f5 rfl rfl rfl rfl rfl rfl rfl ⟨rfl, rfl, rfl, rfl, rfl⟩ rfl rfl rfl rfl rfl ReplicaStamps_named Tryz.func5 ReplicaStamps_closed ReplicaStamps_instance ReplicaStamps_wrapper
    (fun os started H enc _ => ReplicaStamps_lifted os started H enc)
/-- The statement: the tied card. -/
theorem ReplicaStamps_holds : Rows.ReplicaStampsCardSaid :=
  Claim7.holds_tied_plain_at .later [] [.data, .data, .data, .data, .pinned] true (true, "7aa7149c22e1eb29a8c442b1ce7fbe9720cb29c07e3f38ccd89bccca60b45f55") true ReplicaStamps_row (fun _ h => by cases h) (by kernel_rfl) (fun _ h => by cases h) replicaStamps_row_tie rfl ⟨rfl, rfl⟩ (by kernel_rfl) rfl
    (fun f fn hf hfn => by
      obtain rfl : f = 5 := (Option.some.inj (ReplicaStamps_named.symm.trans hf)).symm
      obtain rfl : fn = Tryz.f5 := (Option.some.inj (Tryz.func5.symm.trans hfn)).symm
      exact ⟨by kernel_rfl, fun j t ht => by
        rw [Tryz.params5] at ht
        have hm : t ∈ [33, 61, 61, 3] := by simpa using Array.mem_of_getElem? ht
        have hall : ([33, 61, 61, 3].all fun u => !Tryz.prog.wantsStandIn u) = true := by kernel_rfl
        exact (show Tryz.prog.wantsStandIn t = false by simpa using List.all_eq_true.1 hall t hm)⟩)
    (goesBy_none goes_all rfl)
end Go.Proofs.YtfhhcgldikmejaaGreatDoor
