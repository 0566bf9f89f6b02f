/- The statement LedgerGrows: it returns true at every input, and its arguments read as before. Conditions: none. -/
import Derived.Test.YteockodnfempfaaP2
import Derived.Test.YteockodnfempfaaP9
import Derived.Test.YteockodnfempfaaP12
/- The statement LedgerGrows: it returns true at every input, and its arguments read as before. Conditions: none. -/
namespace Go.Proofs.Yteockodnfempfaa
open Go Go.RowKit Go.Gv Go.ChangeShapes Go.WideShapes Go.ChangeAt

set_option maxRecDepth 100000 in
theorem LedgerGrows_lifted (os : Os) (started : os.Started) (H : Type) (enc : TypeId × Value → H) :
    ReturnsInHanded {} Try.checked os 14 .any (Rows.ledgerGrowsSpec.pre6 enc Try.prog Try.f14 Rows.ledgerGrowsRow.domain false) (Rows.ledgerGrowsSpec.post enc Try.prog Try.f14 false true false false) := by
  refine returnsInHanded_of_change (C := Try.checked) ownK started (by kernel_rfl) Try.func14
    (ChangeSpec.witness6 (enc := enc) (C := Try.checked) false ⟨#[], #[.slice none 0 0], []⟩ 8 (by kernel_rfl) (by kernel_rfl) (by kernel_rfl) (by kernel_rfl)) ?_
  intro W base args ds gs before hval0 hW _ _
  have hval : ∀ (j : Nat) t v, Try.f14.params[j]? = some t → args[j]? = some v → Value.okWide Try.prog W .any base t v := hval0
  have hW' := hW
  obtain ⟨p, q, hA0, hV, rfl, hfz, hnd⟩ := hW
  have hA : DataW.TrodAll enc Try.prog W 0 (fun _ => true) true Try.f14.params.toList args.toList ds p := hA0
  rw [Try.params14] at hA hval
  obtain ⟨v0, d0, rfl, rfl, h0⟩ := trodAll_one hA
  obtain ⟨rfl, rfl⟩ := trodVars_none hV
  obtain ⟨A0, n0, c0, rfl, x0, hx0, ho0, hc0, hm0⟩ := arg_slice Try.underlying65 (op65 W) (hval 0 _ _ rfl rfl) h0
  refine (ledgerGrows_any A0 n0 c0 x0 W hx0 ho0 (Nat.le_trans hc0 hm0)).mono fun e W' ⟨he, hb⟩ => ?_
  subst he
  exact ⟨_, rfl, law_post laidK (by kernel_rfl) (by kernel_rfl) (tb := 4) (by kernel_rfl) hW' rfl rfl hb⟩

theorem LedgerGrows_named : Try.pinned.checked.prog.funcNamed Rows.ledgerGrowsRow.func = some 14 := by kernel_rfl
theorem LedgerGrows_c0 : (Rows.ledgerGrowsRow.wf (OpenSpec.ofChange Rows.ledgerGrowsSpec)) = true := by kernel_rfl
theorem LedgerGrows_c1 : (laidOutB Try.pinned.checked.prog) = true := by kernel_rfl
theorem LedgerGrows_c2 : (mapsRowed Try.pinned.checked.prog) = true := by kernel_rfl
theorem LedgerGrows_c3 : (Try.f14.params.all (Try.pinned.checked.prog.readableRec ·)) = true := by kernel_rfl
theorem LedgerGrows_c4 : (namedTie Try.pinned.checked.prog Rows.ledgerGrowsRow.named Rows.ledgerGrowsSpec.vars) = true := by kernel_rfl
theorem LedgerGrows_c5 : ((Rows.ledgerGrowsRow.stops == [])) = true := by kernel_rfl
theorem LedgerGrows_c6 : ((Try.pinned.checked.prog.stops == [])) = true := by kernel_rfl
theorem LedgerGrows_c7 : ((Rows.ledgerGrowsRow.knobs == [])) = true := by kernel_rfl
theorem LedgerGrows_c8 : ((Try.pinned.checked.prog.stopKnobs == [])) = true := by kernel_rfl
theorem LedgerGrows_c9 : ((Rows.ledgerGrowsRow.inPlace == Try.pinned.checked.prog.inPlace 14)) = true := by kernel_rfl
theorem LedgerGrows_c10 : ((Rows.ledgerGrowsRow.unfollowed == Try.pinned.checked.prog.unfollowed 14)) = true := by kernel_rfl
theorem LedgerGrows_c11 : ((Rows.ledgerGrowsRow.recurses == Try.pinned.checked.prog.recurses 14)) = true := by kernel_rfl
theorem LedgerGrows_c12 : ((Rows.ledgerGrowsRow.named == Try.pinned.checked.prog.varsNamed 14)) = true := by kernel_rfl
theorem LedgerGrows_c13 : ((Rows.ledgerGrowsRow.maps == (Try.f14.params.toList ++ Rows.ledgerGrowsSpec.plain.varTypes Try.pinned.checked.prog).any (Try.pinned.checked.prog.mapsRec ·))) = true := by kernel_rfl
theorem LedgerGrows_c14 : ((Rows.ledgerGrowsRow.ifaces == (Try.f14.params.toList ++ Rows.ledgerGrowsSpec.plain.varTypes Try.pinned.checked.prog).any (Try.pinned.checked.prog.ifacesRec ·))) = true := by kernel_rfl
theorem LedgerGrows_c15 : ((Rows.ledgerGrowsRow.mapsOut == Try.pinned.checked.prog.mapsAmong Try.f14.resultTypes.toList)) = true := by kernel_rfl
theorem LedgerGrows_c16 : ((Rows.ledgerGrowsRow.loops == (Try.f14.params.toList ++ Rows.ledgerGrowsSpec.plain.varTypes Try.pinned.checked.prog).any (Try.pinned.checked.prog.loopsFrom ·))) = true := by kernel_rfl
theorem LedgerGrows_c17 : ((Rows.ledgerGrowsRow.wideKeys == (Try.f14.params.toList ++ Rows.ledgerGrowsSpec.plain.varTypes Try.pinned.checked.prog ++ Try.f14.resultTypes.toList).any (Try.pinned.checked.prog.wideKeysFrom ·))) = true := by kernel_rfl
theorem LedgerGrows_c18 : (Rows.ledgerGrowsSpec.vars.all (Try.pinned.checked.prog.varReadable ·)) = true := by kernel_rfl
theorem LedgerGrows_c19 : (Try.f14.resultTypes.all (fun t => Try.pinned.checked.prog.readableRec t && decide (t < Try.pinned.checked.prog.types.size))) = true := by kernel_rfl
theorem LedgerGrows_c20 : ((Rows.ledgerGrowsRow.ifacesOut == Try.f14.resultTypes.toList.any (Try.pinned.checked.prog.ifacesRec ·))) = true := by kernel_rfl
theorem LedgerGrows_c21 : ((Rows.ledgerGrowsRow.loopsOut == Try.f14.resultTypes.toList.any (Try.pinned.checked.prog.loopsFrom ·))) = true := by kernel_rfl
theorem LedgerGrows_c22 : ((Rows.ledgerGrowsRow.plainKeys == Try.pinned.checked.prog.plainKeys)) = true := by kernel_rfl
theorem LedgerGrows_c23 : (Rows.ledgerGrowsRow.shortTexts.isNone) = true := by kernel_rfl
theorem LedgerGrows_c24 : (Try.pinned.checked.prog.stopsHeard) = true := by kernel_rfl
theorem LedgerGrows_c25 : (Try.pinned.checked.prog.mayEnter) = true := by kernel_rfl
theorem LedgerGrows_c26 : ((Rows.ledgerGrowsRow.lifted == Try.pinned.checked.prog.liftsFinal)) = true := by kernel_rfl
theorem LedgerGrows_c27 : ((Try.pinned.checked.prog.make == some Rows.ledgerGrowsRow.make)) = true := by kernel_rfl
theorem LedgerGrows_c28 : ((Rows.ledgerGrowsRow.kinds == (if Rows.ledgerGrowsRow.domain.isEmpty then [] else Try.f14.params.toList.map fun t => match Try.pinned.checked.prog.underlying t with | some (.int k) => some k | _ => none))) = true := by kernel_rfl
theorem LedgerGrows_c29 : ((Rows.ledgerGrowsRow.pinned == Rows.ledgerGrowsRow.pinnedBy)) = true := by kernel_rfl
theorem LedgerGrows_c30 : ((Rows.ledgerGrowsRow.veiled == (Try.f14.params.toList ++ Rows.ledgerGrowsSpec.plain.varTypes Try.pinned.checked.prog ++ Try.f14.resultTypes.toList).any (Try.pinned.checked.prog.veiledRec ·))) = true := by kernel_rfl
theorem LedgerGrows_c31 : (Rows.ledgerGrowsRow.veiledFits Try.pinned.checked.prog Try.f14.params.toList (Try.f14.params.toList ++ Rows.ledgerGrowsSpec.plain.varTypes Try.pinned.checked.prog ++ Try.f14.resultTypes.toList)) = true := by kernel_rfl
theorem and2 {a b : Bool} (ha : a = true) (hb : b = true) : (a && b) = true := by rw [ha, hb]; rfl
set_option maxRecDepth 100000 in
theorem LedgerGrows_closed : joinedFacts Try.pinned.checked.prog 14 Try.f14 Rows.ledgerGrowsSpec Rows.ledgerGrowsRow = true := by
  unfold joinedFacts
  exact (and2 (and2 (and2 (and2 (and2 (and2 (and2 (and2 (and2 (and2 (and2 (and2 (and2 (and2 (and2 (and2 (and2 (and2 (and2 (and2 (and2 (and2 (and2 (and2 (and2 (and2 (and2 (and2 (and2 (and2 (and2 LedgerGrows_c0 LedgerGrows_c1) LedgerGrows_c2) LedgerGrows_c3) LedgerGrows_c4) LedgerGrows_c5) LedgerGrows_c6) LedgerGrows_c7) LedgerGrows_c8) LedgerGrows_c9) LedgerGrows_c10) LedgerGrows_c11) LedgerGrows_c12) LedgerGrows_c13) LedgerGrows_c14) LedgerGrows_c15) LedgerGrows_c16) LedgerGrows_c17) LedgerGrows_c18) LedgerGrows_c19) LedgerGrows_c20) LedgerGrows_c21) LedgerGrows_c22) LedgerGrows_c23) LedgerGrows_c24) LedgerGrows_c25) LedgerGrows_c26) LedgerGrows_c27) LedgerGrows_c28) LedgerGrows_c29) LedgerGrows_c30) LedgerGrows_c31)
theorem LedgerGrows_instance : Try.f14.isInstance Try.pinned.checked.prog Rows.ledgerGrowsRow.origin Rows.ledgerGrowsRow.targs := of_decide_eq_true (by kernel_rfl)
theorem LedgerGrows_wrapper : Try.f14.isWrapper Try.pinned.checked.prog Rows.ledgerGrowsRow.wrapper Rows.ledgerGrowsRow.mainSum := by unfold Func.isWrapper; rw [if_neg (by decide +kernel)]; exact ⟨rfl, rfl⟩

/-- The statement. -/
theorem LedgerGrows_holds : Rows.LedgerGrowsSaid :=
  OpenClaim.holds_of_wide 14 Try.f14 rfl rfl rfl rfl rfl rfl rfl ⟨rfl, rfl, rfl, rfl, rfl⟩ rfl rfl rfl rfl rfl LedgerGrows_named Try.func14 LedgerGrows_closed LedgerGrows_instance LedgerGrows_wrapper
    (fun os started H enc _ => LedgerGrows_lifted os started H enc)
end Go.Proofs.Yteockodnfempfaa
