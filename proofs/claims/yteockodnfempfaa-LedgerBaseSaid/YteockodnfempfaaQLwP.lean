/- The statement LedgerBase: it returns true at every input, and its arguments read as before. Conditions: none. -/
import Derived.Test.YteockodnfempfaaP2
import Derived.Test.YteockodnfempfaaP9
import Derived.Test.YteockodnfempfaaP13
/- The statement LedgerBase: it returns true at every input, and its arguments read as before. Conditions: none. -/
namespace Go.Proofs.Yteockodnfempfaa
open Go Go.RowKit Go.Gv Go.ChangeShapes Go.WideShapes Go.ChangeAt

set_option maxRecDepth 100000 in
theorem LedgerBase_lifted (os : Os) (started : os.Started) (H : Type) (enc : TypeId × Value → H) :
    ReturnsInHanded {} Try.checked os 16 .any (Rows.ledgerBaseSpec.pre6 enc Try.prog Try.f16 Rows.ledgerBaseRow.domain false) (Rows.ledgerBaseSpec.post enc Try.prog Try.f16 false true false false) := by
  refine returnsInHanded_of_change (C := Try.checked) ownK started (by kernel_rfl) Try.func16
    (ChangeSpec.witness6 (enc := enc) (C := Try.checked) false ⟨#[], #[.slice none 0 0, .agg #[.int .i64 0, .int .i64 0]], []⟩ 8 (by kernel_rfl) (by kernel_rfl) (by kernel_rfl) (by kernel_rfl)) ?_
  intro W base args ds gs before hval0 hW _ _
  have hval : ∀ (j : Nat) t v, Try.f16.params[j]? = some t → args[j]? = some v → Value.okWide Try.prog W .any base t v := hval0
  have hW' := hW
  obtain ⟨p, q, hA0, hV, rfl, hfz, hnd⟩ := hW
  have hA : DataW.TrodAll enc Try.prog W 0 (fun _ => true) true Try.f16.params.toList args.toList ds p := hA0
  rw [Try.params16] at hA hval
  obtain ⟨v0, v1, d0, d1, p0, p1, rfl, rfl, rfl, h0, h1⟩ := trodAll_two hA
  obtain ⟨rfl, rfl⟩ := trodVars_none hV
  obtain ⟨A0, n0, c0, rfl, x0, hx0, ho0, hc0, hm0⟩ := arg_slice Try.underlying65 (op65 W) (hval 0 _ _ rfl rfl) h0
  obtain ⟨y1, rfl, ho1⟩ := arg_agg uu109 (op109 W) (hval 1 _ _ rfl rfl) h1
  have hcall := ledgerBase_any A0 n0 c0 x0 y1 W hx0 ho0 (Nat.le_trans hc0 hm0)
  rw [GConf.val_eq] at hcall
  refine hcall.mono fun e W' ⟨he, hb⟩ => ?_
  subst he
  exact ⟨_, rfl, law_post laidK (by kernel_rfl) (by kernel_rfl) (tb := 4) (by kernel_rfl) hW' rfl rfl hb⟩

theorem LedgerBase_named : Try.pinned.checked.prog.funcNamed Rows.ledgerBaseRow.func = some 16 := by kernel_rfl
theorem LedgerBase_c0 : (Rows.ledgerBaseRow.wf (OpenSpec.ofChange Rows.ledgerBaseSpec)) = true := by kernel_rfl
theorem LedgerBase_c1 : (laidOutB Try.pinned.checked.prog) = true := by kernel_rfl
theorem LedgerBase_c2 : (mapsRowed Try.pinned.checked.prog) = true := by kernel_rfl
theorem LedgerBase_c3 : (Try.f16.params.all (Try.pinned.checked.prog.readableRec ·)) = true := by kernel_rfl
theorem LedgerBase_c4 : (namedTie Try.pinned.checked.prog Rows.ledgerBaseRow.named Rows.ledgerBaseSpec.vars) = true := by kernel_rfl
theorem LedgerBase_c5 : ((Rows.ledgerBaseRow.stops == [])) = true := by kernel_rfl
theorem LedgerBase_c6 : ((Try.pinned.checked.prog.stops == [])) = true := by kernel_rfl
theorem LedgerBase_c7 : ((Rows.ledgerBaseRow.knobs == [])) = true := by kernel_rfl
theorem LedgerBase_c8 : ((Try.pinned.checked.prog.stopKnobs == [])) = true := by kernel_rfl
theorem LedgerBase_c9 : ((Rows.ledgerBaseRow.inPlace == Try.pinned.checked.prog.inPlace 16)) = true := by kernel_rfl
theorem LedgerBase_c10 : ((Rows.ledgerBaseRow.unfollowed == Try.pinned.checked.prog.unfollowed 16)) = true := by kernel_rfl
theorem LedgerBase_c11 : ((Rows.ledgerBaseRow.recurses == Try.pinned.checked.prog.recurses 16)) = true := by kernel_rfl
theorem LedgerBase_c12 : ((Rows.ledgerBaseRow.named == Try.pinned.checked.prog.varsNamed 16)) = true := by kernel_rfl
theorem LedgerBase_c13 : ((Rows.ledgerBaseRow.maps == (Try.f16.params.toList ++ Rows.ledgerBaseSpec.plain.varTypes Try.pinned.checked.prog).any (Try.pinned.checked.prog.mapsRec ·))) = true := by kernel_rfl
theorem LedgerBase_c14 : ((Rows.ledgerBaseRow.ifaces == (Try.f16.params.toList ++ Rows.ledgerBaseSpec.plain.varTypes Try.pinned.checked.prog).any (Try.pinned.checked.prog.ifacesRec ·))) = true := by kernel_rfl
theorem LedgerBase_c15 : ((Rows.ledgerBaseRow.mapsOut == Try.pinned.checked.prog.mapsAmong Try.f16.resultTypes.toList)) = true := by kernel_rfl
theorem LedgerBase_c16 : ((Rows.ledgerBaseRow.loops == (Try.f16.params.toList ++ Rows.ledgerBaseSpec.plain.varTypes Try.pinned.checked.prog).any (Try.pinned.checked.prog.loopsFrom ·))) = true := by kernel_rfl
theorem LedgerBase_c17 : ((Rows.ledgerBaseRow.wideKeys == (Try.f16.params.toList ++ Rows.ledgerBaseSpec.plain.varTypes Try.pinned.checked.prog ++ Try.f16.resultTypes.toList).any (Try.pinned.checked.prog.wideKeysFrom ·))) = true := by kernel_rfl
theorem LedgerBase_c18 : (Rows.ledgerBaseSpec.vars.all (Try.pinned.checked.prog.varReadable ·)) = true := by kernel_rfl
theorem LedgerBase_c19 : (Try.f16.resultTypes.all (fun t => Try.pinned.checked.prog.readableRec t && decide (t < Try.pinned.checked.prog.types.size))) = true := by kernel_rfl
theorem LedgerBase_c20 : ((Rows.ledgerBaseRow.ifacesOut == Try.f16.resultTypes.toList.any (Try.pinned.checked.prog.ifacesRec ·))) = true := by kernel_rfl
theorem LedgerBase_c21 : ((Rows.ledgerBaseRow.loopsOut == Try.f16.resultTypes.toList.any (Try.pinned.checked.prog.loopsFrom ·))) = true := by kernel_rfl
theorem LedgerBase_c22 : ((Rows.ledgerBaseRow.plainKeys == Try.pinned.checked.prog.plainKeys)) = true := by kernel_rfl
theorem LedgerBase_c23 : (Rows.ledgerBaseRow.shortTexts.isNone) = true := by kernel_rfl
theorem LedgerBase_c24 : (Try.pinned.checked.prog.stopsHeard) = true := by kernel_rfl
theorem LedgerBase_c25 : (Try.pinned.checked.prog.mayEnter) = true := by kernel_rfl
theorem LedgerBase_c26 : ((Rows.ledgerBaseRow.lifted == Try.pinned.checked.prog.liftsFinal)) = true := by kernel_rfl
theorem LedgerBase_c27 : ((Try.pinned.checked.prog.make == some Rows.ledgerBaseRow.make)) = true := by kernel_rfl
theorem LedgerBase_c28 : ((Rows.ledgerBaseRow.kinds == (if Rows.ledgerBaseRow.domain.isEmpty then [] else Try.f16.params.toList.map fun t => match Try.pinned.checked.prog.underlying t with | some (.int k) => some k | _ => none))) = true := by kernel_rfl
theorem LedgerBase_c29 : ((Rows.ledgerBaseRow.pinned == Rows.ledgerBaseRow.pinnedBy)) = true := by kernel_rfl
theorem LedgerBase_c30 : ((Rows.ledgerBaseRow.veiled == (Try.f16.params.toList ++ Rows.ledgerBaseSpec.plain.varTypes Try.pinned.checked.prog ++ Try.f16.resultTypes.toList).any (Try.pinned.checked.prog.veiledRec ·))) = true := by kernel_rfl
theorem LedgerBase_c31 : (Rows.ledgerBaseRow.veiledFits Try.pinned.checked.prog Try.f16.params.toList (Try.f16.params.toList ++ Rows.ledgerBaseSpec.plain.varTypes Try.pinned.checked.prog ++ Try.f16.resultTypes.toList)) = true := by kernel_rfl
theorem and2 {a b : Bool} (ha : a = true) (hb : b = true) : (a && b) = true := by rw [ha, hb]; rfl
set_option maxRecDepth 100000 in
theorem LedgerBase_closed : joinedFacts Try.pinned.checked.prog 16 Try.f16 Rows.ledgerBaseSpec Rows.ledgerBaseRow = true := by
  unfold joinedFacts
  exact (and2 (and2 (and2 (and2 (and2 (and2 (and2 (and2 (and2 (and2 (and2 (and2 (and2 (and2 (and2 (and2 (and2 (and2 (and2 (and2 (and2 (and2 (and2 (and2 (and2 (and2 (and2 (and2 (and2 (and2 (and2 LedgerBase_c0 LedgerBase_c1) LedgerBase_c2) LedgerBase_c3) LedgerBase_c4) LedgerBase_c5) LedgerBase_c6) LedgerBase_c7) LedgerBase_c8) LedgerBase_c9) LedgerBase_c10) LedgerBase_c11) LedgerBase_c12) LedgerBase_c13) LedgerBase_c14) LedgerBase_c15) LedgerBase_c16) LedgerBase_c17) LedgerBase_c18) LedgerBase_c19) LedgerBase_c20) LedgerBase_c21) LedgerBase_c22) LedgerBase_c23) LedgerBase_c24) LedgerBase_c25) LedgerBase_c26) LedgerBase_c27) LedgerBase_c28) LedgerBase_c29) LedgerBase_c30) LedgerBase_c31)
theorem LedgerBase_instance : Try.f16.isInstance Try.pinned.checked.prog Rows.ledgerBaseRow.origin Rows.ledgerBaseRow.targs := of_decide_eq_true (by kernel_rfl)
theorem LedgerBase_wrapper : Try.f16.isWrapper Try.pinned.checked.prog Rows.ledgerBaseRow.wrapper Rows.ledgerBaseRow.mainSum := by unfold Func.isWrapper; rw [if_neg (by decide +kernel)]; exact ⟨rfl, rfl⟩

/-- The statement. -/
theorem LedgerBase_holds : Rows.LedgerBaseSaid :=
  OpenClaim.holds_of_wide 16 Try.f16 rfl rfl rfl rfl rfl rfl rfl ⟨rfl, rfl, rfl, rfl, rfl⟩ rfl rfl rfl rfl rfl LedgerBase_named Try.func16 LedgerBase_closed LedgerBase_instance LedgerBase_wrapper
    (fun os started H enc _ => LedgerBase_lifted os started H enc)
end Go.Proofs.Yteockodnfempfaa
