/- The statement LedgerDone: it returns true at every input, and its arguments read as before. Conditions: none. -/
import Derived.Test.YteockodnfempfaaP2
import Derived.Test.YteockodnfempfaaP9
import Derived.Test.YteockodnfempfaaP12
/- The statement LedgerDone: it returns true at every input, and its arguments read as before. Conditions: none. -/
namespace Go.Proofs.Yteockodnfempfaa
open Go Go.RowKit Go.Gv Go.ChangeShapes Go.WideShapes Go.ChangeAt

set_option maxRecDepth 100000 in
theorem LedgerDone_lifted (os : Os) (started : os.Started) (H : Type) (enc : TypeId × Value → H) :
    ReturnsInHanded {} Try.checked os 15 .any (Rows.ledgerDoneSpec.pre6 enc Try.prog Try.f15 Rows.ledgerDoneRow.domain false) (Rows.ledgerDoneSpec.post enc Try.prog Try.f15 false true false false) := by
  refine returnsInHanded_of_change (C := Try.checked) ownK started (by kernel_rfl) Try.func15
    (ChangeSpec.witness6 (enc := enc) (C := Try.checked) false ⟨#[], #[.slice none 0 0, .int .i64 0], []⟩ 8 (by kernel_rfl) (by kernel_rfl) (by kernel_rfl) (by kernel_rfl)) ?_
  intro W base args ds gs before hval0 hW _ _
  have hval : ∀ (j : Nat) t v, Try.f15.params[j]? = some t → args[j]? = some v → Value.okWide Try.prog W .any base t v := hval0
  have hW' := hW
  obtain ⟨p, q, hA0, hV, rfl, hfz, hnd⟩ := hW
  have hA : DataW.TrodAll enc Try.prog W 0 (fun _ => true) true Try.f15.params.toList args.toList ds p := hA0
  rw [Try.params15] at hA hval
  obtain ⟨v0, v1, d0, d1, p0, p1, rfl, rfl, rfl, h0, h1⟩ := trodAll_two hA
  obtain ⟨rfl, rfl⟩ := trodVars_none hV
  obtain ⟨A0, n0, c0, rfl, x0, hx0, ho0, hc0, hm0⟩ := arg_slice Try.underlying65 (op65 W) (hval 0 _ _ rfl rfl) h0
  obtain ⟨n1, rfl, hn1⟩ := arg_int (k := .i64) (by kernel_rfl) (hval 1 _ _ rfl rfl) h1
  refine (ledgerDone_any A0 n0 c0 x0 n1 W hx0 ho0 (Nat.le_trans hc0 hm0)).mono fun e W' ⟨he, hb⟩ => ?_
  subst he
  exact ⟨_, rfl, law_post laidK (by kernel_rfl) (by kernel_rfl) (tb := 4) (by kernel_rfl) hW' rfl rfl hb⟩

theorem LedgerDone_named : Try.pinned.checked.prog.funcNamed Rows.ledgerDoneRow.func = some 15 := by kernel_rfl
theorem LedgerDone_c0 : (Rows.ledgerDoneRow.wf (OpenSpec.ofChange Rows.ledgerDoneSpec)) = true := by kernel_rfl
theorem LedgerDone_c1 : (laidOutB Try.pinned.checked.prog) = true := by kernel_rfl
theorem LedgerDone_c2 : (mapsRowed Try.pinned.checked.prog) = true := by kernel_rfl
theorem LedgerDone_c3 : (Try.f15.params.all (Try.pinned.checked.prog.readableRec ·)) = true := by kernel_rfl
theorem LedgerDone_c4 : (namedTie Try.pinned.checked.prog Rows.ledgerDoneRow.named Rows.ledgerDoneSpec.vars) = true := by kernel_rfl
theorem LedgerDone_c5 : ((Rows.ledgerDoneRow.stops == [])) = true := by kernel_rfl
theorem LedgerDone_c6 : ((Try.pinned.checked.prog.stops == [])) = true := by kernel_rfl
theorem LedgerDone_c7 : ((Rows.ledgerDoneRow.knobs == [])) = true := by kernel_rfl
theorem LedgerDone_c8 : ((Try.pinned.checked.prog.stopKnobs == [])) = true := by kernel_rfl
theorem LedgerDone_c9 : ((Rows.ledgerDoneRow.inPlace == Try.pinned.checked.prog.inPlace 15)) = true := by kernel_rfl
theorem LedgerDone_c10 : ((Rows.ledgerDoneRow.unfollowed == Try.pinned.checked.prog.unfollowed 15)) = true := by kernel_rfl
theorem LedgerDone_c11 : ((Rows.ledgerDoneRow.recurses == Try.pinned.checked.prog.recurses 15)) = true := by kernel_rfl
theorem LedgerDone_c12 : ((Rows.ledgerDoneRow.named == Try.pinned.checked.prog.varsNamed 15)) = true := by kernel_rfl
theorem LedgerDone_c13 : ((Rows.ledgerDoneRow.maps == (Try.f15.params.toList ++ Rows.ledgerDoneSpec.plain.varTypes Try.pinned.checked.prog).any (Try.pinned.checked.prog.mapsRec ·))) = true := by kernel_rfl
theorem LedgerDone_c14 : ((Rows.ledgerDoneRow.ifaces == (Try.f15.params.toList ++ Rows.ledgerDoneSpec.plain.varTypes Try.pinned.checked.prog).any (Try.pinned.checked.prog.ifacesRec ·))) = true := by kernel_rfl
theorem LedgerDone_c15 : ((Rows.ledgerDoneRow.mapsOut == Try.pinned.checked.prog.mapsAmong Try.f15.resultTypes.toList)) = true := by kernel_rfl
theorem LedgerDone_c16 : ((Rows.ledgerDoneRow.loops == (Try.f15.params.toList ++ Rows.ledgerDoneSpec.plain.varTypes Try.pinned.checked.prog).any (Try.pinned.checked.prog.loopsFrom ·))) = true := by kernel_rfl
theorem LedgerDone_c17 : ((Rows.ledgerDoneRow.wideKeys == (Try.f15.params.toList ++ Rows.ledgerDoneSpec.plain.varTypes Try.pinned.checked.prog ++ Try.f15.resultTypes.toList).any (Try.pinned.checked.prog.wideKeysFrom ·))) = true := by kernel_rfl
theorem LedgerDone_c18 : (Rows.ledgerDoneSpec.vars.all (Try.pinned.checked.prog.varReadable ·)) = true := by kernel_rfl
theorem LedgerDone_c19 : (Try.f15.resultTypes.all (fun t => Try.pinned.checked.prog.readableRec t && decide (t < Try.pinned.checked.prog.types.size))) = true := by kernel_rfl
theorem LedgerDone_c20 : ((Rows.ledgerDoneRow.ifacesOut == Try.f15.resultTypes.toList.any (Try.pinned.checked.prog.ifacesRec ·))) = true := by kernel_rfl
theorem LedgerDone_c21 : ((Rows.ledgerDoneRow.loopsOut == Try.f15.resultTypes.toList.any (Try.pinned.checked.prog.loopsFrom ·))) = true := by kernel_rfl
theorem LedgerDone_c22 : ((Rows.ledgerDoneRow.plainKeys == Try.pinned.checked.prog.plainKeys)) = true := by kernel_rfl
theorem LedgerDone_c23 : (Rows.ledgerDoneRow.shortTexts.isNone) = true := by kernel_rfl
theorem LedgerDone_c24 : (Try.pinned.checked.prog.stopsHeard) = true := by kernel_rfl
theorem LedgerDone_c25 : (Try.pinned.checked.prog.mayEnter) = true := by kernel_rfl
theorem LedgerDone_c26 : ((Rows.ledgerDoneRow.lifted == Try.pinned.checked.prog.liftsFinal)) = true := by kernel_rfl
theorem LedgerDone_c27 : ((Try.pinned.checked.prog.make == some Rows.ledgerDoneRow.make)) = true := by kernel_rfl
theorem LedgerDone_c28 : ((Rows.ledgerDoneRow.kinds == (if Rows.ledgerDoneRow.domain.isEmpty then [] else Try.f15.params.toList.map fun t => match Try.pinned.checked.prog.underlying t with | some (.int k) => some k | _ => none))) = true := by kernel_rfl
theorem LedgerDone_c29 : ((Rows.ledgerDoneRow.pinned == Rows.ledgerDoneRow.pinnedBy)) = true := by kernel_rfl
theorem LedgerDone_c30 : ((Rows.ledgerDoneRow.veiled == (Try.f15.params.toList ++ Rows.ledgerDoneSpec.plain.varTypes Try.pinned.checked.prog ++ Try.f15.resultTypes.toList).any (Try.pinned.checked.prog.veiledRec ·))) = true := by kernel_rfl
theorem LedgerDone_c31 : (Rows.ledgerDoneRow.veiledFits Try.pinned.checked.prog Try.f15.params.toList (Try.f15.params.toList ++ Rows.ledgerDoneSpec.plain.varTypes Try.pinned.checked.prog ++ Try.f15.resultTypes.toList)) = true := by kernel_rfl
theorem and2 {a b : Bool} (ha : a = true) (hb : b = true) : (a && b) = true := by rw [ha, hb]; rfl
set_option maxRecDepth 100000 in
theorem LedgerDone_closed : joinedFacts Try.pinned.checked.prog 15 Try.f15 Rows.ledgerDoneSpec Rows.ledgerDoneRow = true := by
  unfold joinedFacts
  exact (and2 (and2 (and2 (and2 (and2 (and2 (and2 (and2 (and2 (and2 (and2 (and2 (and2 (and2 (and2 (and2 (and2 (and2 (and2 (and2 (and2 (and2 (and2 (and2 (and2 (and2 (and2 (and2 (and2 (and2 (and2 LedgerDone_c0 LedgerDone_c1) LedgerDone_c2) LedgerDone_c3) LedgerDone_c4) LedgerDone_c5) LedgerDone_c6) LedgerDone_c7) LedgerDone_c8) LedgerDone_c9) LedgerDone_c10) LedgerDone_c11) LedgerDone_c12) LedgerDone_c13) LedgerDone_c14) LedgerDone_c15) LedgerDone_c16) LedgerDone_c17) LedgerDone_c18) LedgerDone_c19) LedgerDone_c20) LedgerDone_c21) LedgerDone_c22) LedgerDone_c23) LedgerDone_c24) LedgerDone_c25) LedgerDone_c26) LedgerDone_c27) LedgerDone_c28) LedgerDone_c29) LedgerDone_c30) LedgerDone_c31)
theorem LedgerDone_instance : Try.f15.isInstance Try.pinned.checked.prog Rows.ledgerDoneRow.origin Rows.ledgerDoneRow.targs := of_decide_eq_true (by kernel_rfl)
theorem LedgerDone_wrapper : Try.f15.isWrapper Try.pinned.checked.prog Rows.ledgerDoneRow.wrapper Rows.ledgerDoneRow.mainSum := by unfold Func.isWrapper; rw [if_neg (by decide +kernel)]; exact ⟨rfl, rfl⟩

/-- The statement. -/
theorem LedgerDone_holds : Rows.LedgerDoneSaid :=
  OpenClaim.holds_of_wide 15 Try.f15 rfl rfl rfl rfl rfl rfl rfl ⟨rfl, rfl, rfl, rfl, rfl⟩ rfl rfl rfl rfl rfl LedgerDone_named Try.func15 LedgerDone_closed LedgerDone_instance LedgerDone_wrapper
    (fun os started H enc _ => LedgerDone_lifted os started H enc)
end Go.Proofs.Yteockodnfempfaa
