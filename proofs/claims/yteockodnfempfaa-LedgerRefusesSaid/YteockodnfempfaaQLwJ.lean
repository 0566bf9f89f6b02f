/- The statement LedgerRefuses: it returns true at every input, and its arguments read as before. Conditions: none. -/
import Derived.Test.YteockodnfempfaaP2
import Derived.Test.YteockodnfempfaaP9
import Derived.Test.YteockodnfempfaaP11
/- The statement LedgerRefuses: it returns true at every input, and its arguments read as before. Conditions: none. -/
namespace Go.Proofs.Yteockodnfempfaa
open Go Go.RowKit Go.Gv Go.ChangeShapes Go.WideShapes Go.ChangeAt

set_option maxRecDepth 100000 in
theorem LedgerRefuses_lifted (os : Os) (started : os.Started) (H : Type) (enc : TypeId × Value → H) :
    ReturnsInHanded {} Try.checked os 12 .any (Rows.ledgerRefusesSpec.pre6 enc Try.prog Try.f12 Rows.ledgerRefusesRow.domain false) (Rows.ledgerRefusesSpec.post enc Try.prog Try.f12 false true false false) := by
  refine returnsInHanded_of_change (C := Try.checked) ownK started (by kernel_rfl) Try.func12
    (ChangeSpec.witness6 (enc := enc) (C := Try.checked) false ⟨#[], #[.slice none 0 0, .int .i64 0, .int .u64 0], []⟩ 8 (by kernel_rfl) (by kernel_rfl) (by kernel_rfl) (by kernel_rfl)) ?_
  intro W base args ds gs before hval0 hW _ _
  have hval : ∀ (j : Nat) t v, Try.f12.params[j]? = some t → args[j]? = some v → Value.okWide Try.prog W .any base t v := hval0
  have hW' := hW
  obtain ⟨p, q, hA0, hV, rfl, hfz, hnd⟩ := hW
  have hA : DataW.TrodAll enc Try.prog W 0 (fun _ => true) true Try.f12.params.toList args.toList ds p := hA0
  rw [Try.params12] at hA hval
  obtain ⟨v0, v1, v2, d0, d1, d2, p0, p1, p2, rfl, rfl, rfl, h0, h1, h2⟩ := trodAll_three hA
  obtain ⟨rfl, rfl⟩ := trodVars_none hV
  obtain ⟨A0, n0, c0, rfl, x0, hx0, ho0, hc0, hm0⟩ := arg_slice Try.underlying65 (op65 W) (hval 0 _ _ rfl rfl) h0
  obtain ⟨n1, rfl, hn1⟩ := arg_int (k := .i64) (by kernel_rfl) (hval 1 _ _ rfl rfl) h1
  obtain ⟨n2, rfl, hn2⟩ := arg_int (k := .u64) (by kernel_rfl) (hval 2 _ _ rfl rfl) h2
  refine (refuses_any A0 n0 c0 x0 n1 n2 W hx0 ho0 (Nat.le_trans hc0 hm0) (FitI.i64 hn1).1 (FitI.i64 hn1).2 (FitI.u64 hn2).1 (FitI.u64 hn2).2).mono fun e W' ⟨he, hb⟩ => ?_
  subst he
  exact ⟨_, rfl, law_post laidK (by kernel_rfl) (by kernel_rfl) (tb := 4) (by kernel_rfl) hW' rfl rfl hb⟩

theorem LedgerRefuses_named : Try.pinned.checked.prog.funcNamed Rows.ledgerRefusesRow.func = some 12 := by kernel_rfl
theorem LedgerRefuses_c0 : (Rows.ledgerRefusesRow.wf (OpenSpec.ofChange Rows.ledgerRefusesSpec)) = true := by kernel_rfl
theorem LedgerRefuses_c1 : (laidOutB Try.pinned.checked.prog) = true := by kernel_rfl
theorem LedgerRefuses_c2 : (mapsRowed Try.pinned.checked.prog) = true := by kernel_rfl
theorem LedgerRefuses_c3 : (Try.f12.params.all (Try.pinned.checked.prog.readableRec ·)) = true := by kernel_rfl
theorem LedgerRefuses_c4 : (namedTie Try.pinned.checked.prog Rows.ledgerRefusesRow.named Rows.ledgerRefusesSpec.vars) = true := by kernel_rfl
theorem LedgerRefuses_c5 : ((Rows.ledgerRefusesRow.stops == [])) = true := by kernel_rfl
theorem LedgerRefuses_c6 : ((Try.pinned.checked.prog.stops == [])) = true := by kernel_rfl
theorem LedgerRefuses_c7 : ((Rows.ledgerRefusesRow.knobs == [])) = true := by kernel_rfl
theorem LedgerRefuses_c8 : ((Try.pinned.checked.prog.stopKnobs == [])) = true := by kernel_rfl
theorem LedgerRefuses_c9 : ((Rows.ledgerRefusesRow.inPlace == Try.pinned.checked.prog.inPlace 12)) = true := by kernel_rfl
theorem LedgerRefuses_c10 : ((Rows.ledgerRefusesRow.unfollowed == Try.pinned.checked.prog.unfollowed 12)) = true := by kernel_rfl
theorem LedgerRefuses_c11 : ((Rows.ledgerRefusesRow.recurses == Try.pinned.checked.prog.recurses 12)) = true := by kernel_rfl
theorem LedgerRefuses_c12 : ((Rows.ledgerRefusesRow.named == Try.pinned.checked.prog.varsNamed 12)) = true := by kernel_rfl
theorem LedgerRefuses_c13 : ((Rows.ledgerRefusesRow.maps == (Try.f12.params.toList ++ Rows.ledgerRefusesSpec.plain.varTypes Try.pinned.checked.prog).any (Try.pinned.checked.prog.mapsRec ·))) = true := by kernel_rfl
theorem LedgerRefuses_c14 : ((Rows.ledgerRefusesRow.ifaces == (Try.f12.params.toList ++ Rows.ledgerRefusesSpec.plain.varTypes Try.pinned.checked.prog).any (Try.pinned.checked.prog.ifacesRec ·))) = true := by kernel_rfl
theorem LedgerRefuses_c15 : ((Rows.ledgerRefusesRow.mapsOut == Try.pinned.checked.prog.mapsAmong Try.f12.resultTypes.toList)) = true := by kernel_rfl
theorem LedgerRefuses_c16 : ((Rows.ledgerRefusesRow.loops == (Try.f12.params.toList ++ Rows.ledgerRefusesSpec.plain.varTypes Try.pinned.checked.prog).any (Try.pinned.checked.prog.loopsFrom ·))) = true := by kernel_rfl
theorem LedgerRefuses_c17 : ((Rows.ledgerRefusesRow.wideKeys == (Try.f12.params.toList ++ Rows.ledgerRefusesSpec.plain.varTypes Try.pinned.checked.prog ++ Try.f12.resultTypes.toList).any (Try.pinned.checked.prog.wideKeysFrom ·))) = true := by kernel_rfl
theorem LedgerRefuses_c18 : (Rows.ledgerRefusesSpec.vars.all (Try.pinned.checked.prog.varReadable ·)) = true := by kernel_rfl
theorem LedgerRefuses_c19 : (Try.f12.resultTypes.all (fun t => Try.pinned.checked.prog.readableRec t && decide (t < Try.pinned.checked.prog.types.size))) = true := by kernel_rfl
theorem LedgerRefuses_c20 : ((Rows.ledgerRefusesRow.ifacesOut == Try.f12.resultTypes.toList.any (Try.pinned.checked.prog.ifacesRec ·))) = true := by kernel_rfl
theorem LedgerRefuses_c21 : ((Rows.ledgerRefusesRow.loopsOut == Try.f12.resultTypes.toList.any (Try.pinned.checked.prog.loopsFrom ·))) = true := by kernel_rfl
theorem LedgerRefuses_c22 : ((Rows.ledgerRefusesRow.plainKeys == Try.pinned.checked.prog.plainKeys)) = true := by kernel_rfl
theorem LedgerRefuses_c23 : (Rows.ledgerRefusesRow.shortTexts.isNone) = true := by kernel_rfl
theorem LedgerRefuses_c24 : (Try.pinned.checked.prog.stopsHeard) = true := by kernel_rfl
theorem LedgerRefuses_c25 : (Try.pinned.checked.prog.mayEnter) = true := by kernel_rfl
theorem LedgerRefuses_c26 : ((Rows.ledgerRefusesRow.lifted == Try.pinned.checked.prog.liftsFinal)) = true := by kernel_rfl
theorem LedgerRefuses_c27 : ((Try.pinned.checked.prog.make == some Rows.ledgerRefusesRow.make)) = true := by kernel_rfl
theorem LedgerRefuses_c28 : ((Rows.ledgerRefusesRow.kinds == (if Rows.ledgerRefusesRow.domain.isEmpty then [] else Try.f12.params.toList.map fun t => match Try.pinned.checked.prog.underlying t with | some (.int k) => some k | _ => none))) = true := by kernel_rfl
theorem LedgerRefuses_c29 : ((Rows.ledgerRefusesRow.pinned == Rows.ledgerRefusesRow.pinnedBy)) = true := by kernel_rfl
theorem LedgerRefuses_c30 : ((Rows.ledgerRefusesRow.veiled == (Try.f12.params.toList ++ Rows.ledgerRefusesSpec.plain.varTypes Try.pinned.checked.prog ++ Try.f12.resultTypes.toList).any (Try.pinned.checked.prog.veiledRec ·))) = true := by kernel_rfl
theorem LedgerRefuses_c31 : (Rows.ledgerRefusesRow.veiledFits Try.pinned.checked.prog Try.f12.params.toList (Try.f12.params.toList ++ Rows.ledgerRefusesSpec.plain.varTypes Try.pinned.checked.prog ++ Try.f12.resultTypes.toList)) = true := by kernel_rfl
theorem and2 {a b : Bool} (ha : a = true) (hb : b = true) : (a && b) = true := by rw [ha, hb]; rfl
set_option maxRecDepth 100000 in
theorem LedgerRefuses_closed : joinedFacts Try.pinned.checked.prog 12 Try.f12 Rows.ledgerRefusesSpec Rows.ledgerRefusesRow = true := by
  unfold joinedFacts
  exact (and2 (and2 (and2 (and2 (and2 (and2 (and2 (and2 (and2 (and2 (and2 (and2 (and2 (and2 (and2 (and2 (and2 (and2 (and2 (and2 (and2 (and2 (and2 (and2 (and2 (and2 (and2 (and2 (and2 (and2 (and2 LedgerRefuses_c0 LedgerRefuses_c1) LedgerRefuses_c2) LedgerRefuses_c3) LedgerRefuses_c4) LedgerRefuses_c5) LedgerRefuses_c6) LedgerRefuses_c7) LedgerRefuses_c8) LedgerRefuses_c9) LedgerRefuses_c10) LedgerRefuses_c11) LedgerRefuses_c12) LedgerRefuses_c13) LedgerRefuses_c14) LedgerRefuses_c15) LedgerRefuses_c16) LedgerRefuses_c17) LedgerRefuses_c18) LedgerRefuses_c19) LedgerRefuses_c20) LedgerRefuses_c21) LedgerRefuses_c22) LedgerRefuses_c23) LedgerRefuses_c24) LedgerRefuses_c25) LedgerRefuses_c26) LedgerRefuses_c27) LedgerRefuses_c28) LedgerRefuses_c29) LedgerRefuses_c30) LedgerRefuses_c31)
theorem LedgerRefuses_instance : Try.f12.isInstance Try.pinned.checked.prog Rows.ledgerRefusesRow.origin Rows.ledgerRefusesRow.targs := of_decide_eq_true (by kernel_rfl)
theorem LedgerRefuses_wrapper : Try.f12.isWrapper Try.pinned.checked.prog Rows.ledgerRefusesRow.wrapper Rows.ledgerRefusesRow.mainSum := by unfold Func.isWrapper; rw [if_neg (by decide +kernel)]; exact ⟨rfl, rfl⟩

/-- The statement. -/
theorem LedgerRefuses_holds : Rows.LedgerRefusesSaid :=
  OpenClaim.holds_of_wide 12 Try.f12 rfl rfl rfl rfl rfl rfl rfl ⟨rfl, rfl, rfl, rfl, rfl⟩ rfl rfl rfl rfl rfl LedgerRefuses_named Try.func12 LedgerRefuses_closed LedgerRefuses_instance LedgerRefuses_wrapper
    (fun os started H enc _ => LedgerRefuses_lifted os started H enc)
end Go.Proofs.Yteockodnfempfaa
