/- The statement LedgerEnds: it returns true at every input, and its arguments read as before. Conditions: none. -/
import Derived.Test.YteockodnfempfaaP2
import Derived.Test.YteockodnfempfaaP9
import Derived.Test.YteockodnfempfaaP12
/- The statement LedgerEnds: it returns true at every input, and its arguments read as before. Conditions: none. -/
namespace Go.Proofs.Yteockodnfempfaa
open Go Go.RowKit Go.Gv Go.ChangeShapes Go.WideShapes Go.ChangeAt

set_option maxRecDepth 100000 in
theorem LedgerEnds_lifted (os : Os) (started : os.Started) (H : Type) (enc : TypeId × Value → H) :
    ReturnsInHanded {} Try.checked os 13 .any (Rows.ledgerEndsSpec.pre6 enc Try.prog Try.f13 Rows.ledgerEndsRow.domain false) (Rows.ledgerEndsSpec.post enc Try.prog Try.f13 false true false false) := by
  refine returnsInHanded_of_change (C := Try.checked) ownK started (by kernel_rfl) Try.func13
    (ChangeSpec.witness6 (enc := enc) (C := Try.checked) false ⟨#[], #[.slice none 0 0, .slice none 0 0, .bool false, .bool false], []⟩ 8 (by kernel_rfl) (by kernel_rfl) (by kernel_rfl) (by kernel_rfl)) ?_
  intro W base args ds gs before hval0 hW _ _
  have hval : ∀ (j : Nat) t v, Try.f13.params[j]? = some t → args[j]? = some v → Value.okWide Try.prog W .any base t v := hval0
  have hW' := hW
  obtain ⟨p, q, hA0, hV, rfl, hfz, hnd⟩ := hW
  have hA : DataW.TrodAll enc Try.prog W 0 (fun _ => true) true Try.f13.params.toList args.toList ds p := hA0
  rw [Try.params13] at hA hval
  obtain ⟨v0, v1, v2, v3, d0, d1, d2, d3, p0, p1, p2, p3, rfl, rfl, rfl, h0, h1, h2, h3⟩ := trodAll_four hA
  obtain ⟨rfl, rfl⟩ := trodVars_none hV
  obtain ⟨A0, n0, c0, rfl, x0, hx0, ho0, hc0, hm0⟩ := arg_slice Try.underlying79 (op79 W) (hval 0 _ _ rfl rfl) h0
  obtain ⟨A1, n1, c1, rfl, x1, hx1, ho1, hc1, hm1⟩ := arg_slice Try.underlying79 (op79 W) (hval 1 _ _ rfl rfl) h1
  obtain ⟨b2, rfl⟩ := arg_bool (by kernel_rfl) (hval 2 _ _ rfl rfl)
  obtain ⟨b3, rfl⟩ := arg_bool (by kernel_rfl) (hval 3 _ _ rfl rfl)
  refine (ledgerEnds_any A0 A1 n0 c0 n1 c1 x0 x1 b2 b3 W hx0 hc0 hm0 hx1 hc1 hm1).mono fun e W' ⟨he, hb⟩ => ?_
  subst he
  exact ⟨_, rfl, law_post laidK (by kernel_rfl) (by kernel_rfl) (tb := 4) (by kernel_rfl) hW' rfl rfl hb⟩

theorem LedgerEnds_named : Try.pinned.checked.prog.funcNamed Rows.ledgerEndsRow.func = some 13 := by kernel_rfl
theorem LedgerEnds_c0 : (Rows.ledgerEndsRow.wf (OpenSpec.ofChange Rows.ledgerEndsSpec)) = true := by kernel_rfl
theorem LedgerEnds_c1 : (laidOutB Try.pinned.checked.prog) = true := by kernel_rfl
theorem LedgerEnds_c2 : (mapsRowed Try.pinned.checked.prog) = true := by kernel_rfl
theorem LedgerEnds_c3 : (Try.f13.params.all (Try.pinned.checked.prog.readableRec ·)) = true := by kernel_rfl
theorem LedgerEnds_c4 : (namedTie Try.pinned.checked.prog Rows.ledgerEndsRow.named Rows.ledgerEndsSpec.vars) = true := by kernel_rfl
theorem LedgerEnds_c5 : ((Rows.ledgerEndsRow.stops == [])) = true := by kernel_rfl
theorem LedgerEnds_c6 : ((Try.pinned.checked.prog.stops == [])) = true := by kernel_rfl
theorem LedgerEnds_c7 : ((Rows.ledgerEndsRow.knobs == [])) = true := by kernel_rfl
theorem LedgerEnds_c8 : ((Try.pinned.checked.prog.stopKnobs == [])) = true := by kernel_rfl
theorem LedgerEnds_c9 : ((Rows.ledgerEndsRow.inPlace == Try.pinned.checked.prog.inPlace 13)) = true := by kernel_rfl
theorem LedgerEnds_c10 : ((Rows.ledgerEndsRow.unfollowed == Try.pinned.checked.prog.unfollowed 13)) = true := by kernel_rfl
theorem LedgerEnds_c11 : ((Rows.ledgerEndsRow.recurses == Try.pinned.checked.prog.recurses 13)) = true := by kernel_rfl
theorem LedgerEnds_c12 : ((Rows.ledgerEndsRow.named == Try.pinned.checked.prog.varsNamed 13)) = true := by kernel_rfl
theorem LedgerEnds_c13 : ((Rows.ledgerEndsRow.maps == (Try.f13.params.toList ++ Rows.ledgerEndsSpec.plain.varTypes Try.pinned.checked.prog).any (Try.pinned.checked.prog.mapsRec ·))) = true := by kernel_rfl
theorem LedgerEnds_c14 : ((Rows.ledgerEndsRow.ifaces == (Try.f13.params.toList ++ Rows.ledgerEndsSpec.plain.varTypes Try.pinned.checked.prog).any (Try.pinned.checked.prog.ifacesRec ·))) = true := by kernel_rfl
theorem LedgerEnds_c15 : ((Rows.ledgerEndsRow.mapsOut == Try.pinned.checked.prog.mapsAmong Try.f13.resultTypes.toList)) = true := by kernel_rfl
theorem LedgerEnds_c16 : ((Rows.ledgerEndsRow.loops == (Try.f13.params.toList ++ Rows.ledgerEndsSpec.plain.varTypes Try.pinned.checked.prog).any (Try.pinned.checked.prog.loopsFrom ·))) = true := by kernel_rfl
theorem LedgerEnds_c17 : ((Rows.ledgerEndsRow.wideKeys == (Try.f13.params.toList ++ Rows.ledgerEndsSpec.plain.varTypes Try.pinned.checked.prog ++ Try.f13.resultTypes.toList).any (Try.pinned.checked.prog.wideKeysFrom ·))) = true := by kernel_rfl
theorem LedgerEnds_c18 : (Rows.ledgerEndsSpec.vars.all (Try.pinned.checked.prog.varReadable ·)) = true := by kernel_rfl
theorem LedgerEnds_c19 : (Try.f13.resultTypes.all (fun t => Try.pinned.checked.prog.readableRec t && decide (t < Try.pinned.checked.prog.types.size))) = true := by kernel_rfl
theorem LedgerEnds_c20 : ((Rows.ledgerEndsRow.ifacesOut == Try.f13.resultTypes.toList.any (Try.pinned.checked.prog.ifacesRec ·))) = true := by kernel_rfl
theorem LedgerEnds_c21 : ((Rows.ledgerEndsRow.loopsOut == Try.f13.resultTypes.toList.any (Try.pinned.checked.prog.loopsFrom ·))) = true := by kernel_rfl
theorem LedgerEnds_c22 : ((Rows.ledgerEndsRow.plainKeys == Try.pinned.checked.prog.plainKeys)) = true := by kernel_rfl
theorem LedgerEnds_c23 : (Rows.ledgerEndsRow.shortTexts.isNone) = true := by kernel_rfl
theorem LedgerEnds_c24 : (Try.pinned.checked.prog.stopsHeard) = true := by kernel_rfl
theorem LedgerEnds_c25 : (Try.pinned.checked.prog.mayEnter) = true := by kernel_rfl
theorem LedgerEnds_c26 : ((Rows.ledgerEndsRow.lifted == Try.pinned.checked.prog.liftsFinal)) = true := by kernel_rfl
theorem LedgerEnds_c27 : ((Try.pinned.checked.prog.make == some Rows.ledgerEndsRow.make)) = true := by kernel_rfl
theorem LedgerEnds_c28 : ((Rows.ledgerEndsRow.kinds == (if Rows.ledgerEndsRow.domain.isEmpty then [] else Try.f13.params.toList.map fun t => match Try.pinned.checked.prog.underlying t with | some (.int k) => some k | _ => none))) = true := by kernel_rfl
theorem LedgerEnds_c29 : ((Rows.ledgerEndsRow.pinned == Rows.ledgerEndsRow.pinnedBy)) = true := by kernel_rfl
theorem LedgerEnds_c30 : ((Rows.ledgerEndsRow.veiled == (Try.f13.params.toList ++ Rows.ledgerEndsSpec.plain.varTypes Try.pinned.checked.prog ++ Try.f13.resultTypes.toList).any (Try.pinned.checked.prog.veiledRec ·))) = true := by kernel_rfl
theorem LedgerEnds_c31 : (Rows.ledgerEndsRow.veiledFits Try.pinned.checked.prog Try.f13.params.toList (Try.f13.params.toList ++ Rows.ledgerEndsSpec.plain.varTypes Try.pinned.checked.prog ++ Try.f13.resultTypes.toList)) = true := by kernel_rfl
theorem and2 {a b : Bool} (ha : a = true) (hb : b = true) : (a && b) = true := by rw [ha, hb]; rfl
set_option maxRecDepth 100000 in
theorem LedgerEnds_closed : joinedFacts Try.pinned.checked.prog 13 Try.f13 Rows.ledgerEndsSpec Rows.ledgerEndsRow = true := by
  unfold joinedFacts
  exact (and2 (and2 (and2 (and2 (and2 (and2 (and2 (and2 (and2 (and2 (and2 (and2 (and2 (and2 (and2 (and2 (and2 (and2 (and2 (and2 (and2 (and2 (and2 (and2 (and2 (and2 (and2 (and2 (and2 (and2 (and2 LedgerEnds_c0 LedgerEnds_c1) LedgerEnds_c2) LedgerEnds_c3) LedgerEnds_c4) LedgerEnds_c5) LedgerEnds_c6) LedgerEnds_c7) LedgerEnds_c8) LedgerEnds_c9) LedgerEnds_c10) LedgerEnds_c11) LedgerEnds_c12) LedgerEnds_c13) LedgerEnds_c14) LedgerEnds_c15) LedgerEnds_c16) LedgerEnds_c17) LedgerEnds_c18) LedgerEnds_c19) LedgerEnds_c20) LedgerEnds_c21) LedgerEnds_c22) LedgerEnds_c23) LedgerEnds_c24) LedgerEnds_c25) LedgerEnds_c26) LedgerEnds_c27) LedgerEnds_c28) LedgerEnds_c29) LedgerEnds_c30) LedgerEnds_c31)
theorem LedgerEnds_instance : Try.f13.isInstance Try.pinned.checked.prog Rows.ledgerEndsRow.origin Rows.ledgerEndsRow.targs := of_decide_eq_true (by kernel_rfl)
theorem LedgerEnds_wrapper : Try.f13.isWrapper Try.pinned.checked.prog Rows.ledgerEndsRow.wrapper Rows.ledgerEndsRow.mainSum := by unfold Func.isWrapper; rw [if_neg (by decide +kernel)]; exact ⟨rfl, rfl⟩

/-- The statement. -/
theorem LedgerEnds_holds : Rows.LedgerEndsSaid :=
  OpenClaim.holds_of_wide 13 Try.f13 rfl rfl rfl rfl rfl rfl rfl ⟨rfl, rfl, rfl, rfl, rfl⟩ rfl rfl rfl rfl rfl LedgerEnds_named Try.func13 LedgerEnds_closed LedgerEnds_instance LedgerEnds_wrapper
    (fun os started H enc _ => LedgerEnds_lifted os started H enc)
end Go.Proofs.Yteockodnfempfaa
