/- The statement LedgerPlays: it returns true at every input, and its arguments read as before. Conditions: none. -/
import Derived.Test.YteockodnfempfaaP2
import Derived.Test.YteockodnfempfaaP9
import Derived.Test.YteockodnfempfaaP16
/- The statement LedgerPlays: it returns true at every input, and its arguments read as before. Conditions: none. -/
namespace Go.Proofs.Yteockodnfempfaa
open Go Go.RowKit Go.Gv Go.ChangeShapes Go.WideShapes Go.ChangeAt

set_option maxRecDepth 100000 in
theorem LedgerPlays_lifted (os : Os) (started : os.Started) (H : Type) (enc : TypeId × Value → H) :
    ReturnsInHanded {} Try.checked os 18 .any (Rows.ledgerPlaysSpec.pre6 enc Try.prog Try.f18 Rows.ledgerPlaysRow.domain false) (Rows.ledgerPlaysSpec.post enc Try.prog Try.f18 false true false false) := by
  refine returnsInHanded_of_change (C := Try.checked) ownK started (by kernel_rfl) Try.func18
    (ChangeSpec.witness6 (enc := enc) (C := Try.checked) false ⟨#[], #[.slice none 0 0, .slice none 0 0, .agg #[.int .i64 0, .int .i64 0]], []⟩ 8 (by kernel_rfl) (by kernel_rfl) (by kernel_rfl) (by kernel_rfl)) ?_
  intro W base args ds gs before hval0 hW _ _
  have hval : ∀ (j : Nat) t v, Try.f18.params[j]? = some t → args[j]? = some v → Value.okWide Try.prog W .any base t v := hval0
  have hW' := hW
  obtain ⟨p, q, hA0, hV, rfl, hfz, hnd⟩ := hW
  have hA : DataW.TrodAll enc Try.prog W 0 (fun _ => true) true Try.f18.params.toList args.toList ds p := hA0
  rw [Try.params18] at hA hval
  obtain ⟨v0, v1, v2, d0, d1, d2, p0, p1, p2, rfl, rfl, rfl, h0, h1, h2⟩ := trodAll_three hA
  obtain ⟨rfl, rfl⟩ := trodVars_none hV
  obtain ⟨A0, n0, c0, rfl, x0, hx0, ho0, hc0, hm0⟩ := arg_slice Try.underlying65 (op65 W) (hval 0 _ _ rfl rfl) h0
  obtain ⟨A1, n1, c1, rfl, x1, hx1, ho1, hc1, hm1⟩ := arg_slice Try.underlying65 (op65 W) (hval 1 _ _ rfl rfl) h1
  obtain ⟨y2, rfl, ho2⟩ := arg_agg uu109 (op109 W) (hval 2 _ _ rfl rfl) h2
  have hcall := ledgerPlays_any A0 n0 c0 x0 A1 n1 c1 x1 y2 W hx0 ho0 (Nat.le_trans hc0 hm0) hx1 ho1 (Nat.le_trans hc1 hm1)
  rw [GConf.val_eq] at hcall
  refine hcall.mono fun e W' ⟨he, hb⟩ => ?_
  subst he
  exact ⟨_, rfl, law_post laidK (by kernel_rfl) (by kernel_rfl) (tb := 4) (by kernel_rfl) hW' rfl rfl hb⟩

theorem LedgerPlays_named : Try.pinned.checked.prog.funcNamed Rows.ledgerPlaysRow.func = some 18 := by kernel_rfl
theorem LedgerPlays_c0 : (Rows.ledgerPlaysRow.wf (OpenSpec.ofChange Rows.ledgerPlaysSpec)) = true := by kernel_rfl
theorem LedgerPlays_c1 : (laidOutB Try.pinned.checked.prog) = true := by kernel_rfl
theorem LedgerPlays_c2 : (mapsRowed Try.pinned.checked.prog) = true := by kernel_rfl
theorem LedgerPlays_c3 : (Try.f18.params.all (Try.pinned.checked.prog.readableRec ·)) = true := by kernel_rfl
theorem LedgerPlays_c4 : (namedTie Try.pinned.checked.prog Rows.ledgerPlaysRow.named Rows.ledgerPlaysSpec.vars) = true := by kernel_rfl
theorem LedgerPlays_c5 : ((Rows.ledgerPlaysRow.stops == [])) = true := by kernel_rfl
theorem LedgerPlays_c6 : ((Try.pinned.checked.prog.stops == [])) = true := by kernel_rfl
theorem LedgerPlays_c7 : ((Rows.ledgerPlaysRow.knobs == [])) = true := by kernel_rfl
theorem LedgerPlays_c8 : ((Try.pinned.checked.prog.stopKnobs == [])) = true := by kernel_rfl
theorem LedgerPlays_c9 : ((Rows.ledgerPlaysRow.inPlace == Try.pinned.checked.prog.inPlace 18)) = true := by kernel_rfl
theorem LedgerPlays_c10 : ((Rows.ledgerPlaysRow.unfollowed == Try.pinned.checked.prog.unfollowed 18)) = true := by kernel_rfl
theorem LedgerPlays_c11 : ((Rows.ledgerPlaysRow.recurses == Try.pinned.checked.prog.recurses 18)) = true := by kernel_rfl
theorem LedgerPlays_c12 : ((Rows.ledgerPlaysRow.named == Try.pinned.checked.prog.varsNamed 18)) = true := by kernel_rfl
theorem LedgerPlays_c13 : ((Rows.ledgerPlaysRow.maps == (Try.f18.params.toList ++ Rows.ledgerPlaysSpec.plain.varTypes Try.pinned.checked.prog).any (Try.pinned.checked.prog.mapsRec ·))) = true := by kernel_rfl
theorem LedgerPlays_c14 : ((Rows.ledgerPlaysRow.ifaces == (Try.f18.params.toList ++ Rows.ledgerPlaysSpec.plain.varTypes Try.pinned.checked.prog).any (Try.pinned.checked.prog.ifacesRec ·))) = true := by kernel_rfl
theorem LedgerPlays_c15 : ((Rows.ledgerPlaysRow.mapsOut == Try.pinned.checked.prog.mapsAmong Try.f18.resultTypes.toList)) = true := by kernel_rfl
theorem LedgerPlays_c16 : ((Rows.ledgerPlaysRow.loops == (Try.f18.params.toList ++ Rows.ledgerPlaysSpec.plain.varTypes Try.pinned.checked.prog).any (Try.pinned.checked.prog.loopsFrom ·))) = true := by kernel_rfl
theorem LedgerPlays_c17 : ((Rows.ledgerPlaysRow.wideKeys == (Try.f18.params.toList ++ Rows.ledgerPlaysSpec.plain.varTypes Try.pinned.checked.prog ++ Try.f18.resultTypes.toList).any (Try.pinned.checked.prog.wideKeysFrom ·))) = true := by kernel_rfl
theorem LedgerPlays_c18 : (Rows.ledgerPlaysSpec.vars.all (Try.pinned.checked.prog.varReadable ·)) = true := by kernel_rfl
theorem LedgerPlays_c19 : (Try.f18.resultTypes.all (fun t => Try.pinned.checked.prog.readableRec t && decide (t < Try.pinned.checked.prog.types.size))) = true := by kernel_rfl
theorem LedgerPlays_c20 : ((Rows.ledgerPlaysRow.ifacesOut == Try.f18.resultTypes.toList.any (Try.pinned.checked.prog.ifacesRec ·))) = true := by kernel_rfl
theorem LedgerPlays_c21 : ((Rows.ledgerPlaysRow.loopsOut == Try.f18.resultTypes.toList.any (Try.pinned.checked.prog.loopsFrom ·))) = true := by kernel_rfl
theorem LedgerPlays_c22 : ((Rows.ledgerPlaysRow.plainKeys == Try.pinned.checked.prog.plainKeys)) = true := by kernel_rfl
theorem LedgerPlays_c23 : (Rows.ledgerPlaysRow.shortTexts.isNone) = true := by kernel_rfl
theorem LedgerPlays_c24 : (Try.pinned.checked.prog.stopsHeard) = true := by kernel_rfl
theorem LedgerPlays_c25 : (Try.pinned.checked.prog.mayEnter) = true := by kernel_rfl
theorem LedgerPlays_c26 : ((Rows.ledgerPlaysRow.lifted == Try.pinned.checked.prog.liftsFinal)) = true := by kernel_rfl
theorem LedgerPlays_c27 : ((Try.pinned.checked.prog.make == some Rows.ledgerPlaysRow.make)) = true := by kernel_rfl
theorem LedgerPlays_c28 : ((Rows.ledgerPlaysRow.kinds == (if Rows.ledgerPlaysRow.domain.isEmpty then [] else Try.f18.params.toList.map fun t => match Try.pinned.checked.prog.underlying t with | some (.int k) => some k | _ => none))) = true := by kernel_rfl
theorem LedgerPlays_c29 : ((Rows.ledgerPlaysRow.pinned == Rows.ledgerPlaysRow.pinnedBy)) = true := by kernel_rfl
theorem LedgerPlays_c30 : ((Rows.ledgerPlaysRow.veiled == (Try.f18.params.toList ++ Rows.ledgerPlaysSpec.plain.varTypes Try.pinned.checked.prog ++ Try.f18.resultTypes.toList).any (Try.pinned.checked.prog.veiledRec ·))) = true := by kernel_rfl
theorem LedgerPlays_c31 : (Rows.ledgerPlaysRow.veiledFits Try.pinned.checked.prog Try.f18.params.toList (Try.f18.params.toList ++ Rows.ledgerPlaysSpec.plain.varTypes Try.pinned.checked.prog ++ Try.f18.resultTypes.toList)) = true := by kernel_rfl
theorem and2 {a b : Bool} (ha : a = true) (hb : b = true) : (a && b) = true := by rw [ha, hb]; rfl
set_option maxRecDepth 100000 in
theorem LedgerPlays_closed : joinedFacts Try.pinned.checked.prog 18 Try.f18 Rows.ledgerPlaysSpec Rows.ledgerPlaysRow = true := by
  unfold joinedFacts
  exact (and2 (and2 (and2 (and2 (and2 (and2 (and2 (and2 (and2 (and2 (and2 (and2 (and2 (and2 (and2 (and2 (and2 (and2 (and2 (and2 (and2 (and2 (and2 (and2 (and2 (and2 (and2 (and2 (and2 (and2 (and2 LedgerPlays_c0 LedgerPlays_c1) LedgerPlays_c2) LedgerPlays_c3) LedgerPlays_c4) LedgerPlays_c5) LedgerPlays_c6) LedgerPlays_c7) LedgerPlays_c8) LedgerPlays_c9) LedgerPlays_c10) LedgerPlays_c11) LedgerPlays_c12) LedgerPlays_c13) LedgerPlays_c14) LedgerPlays_c15) LedgerPlays_c16) LedgerPlays_c17) LedgerPlays_c18) LedgerPlays_c19) LedgerPlays_c20) LedgerPlays_c21) LedgerPlays_c22) LedgerPlays_c23) LedgerPlays_c24) LedgerPlays_c25) LedgerPlays_c26) LedgerPlays_c27) LedgerPlays_c28) LedgerPlays_c29) LedgerPlays_c30) LedgerPlays_c31)
theorem LedgerPlays_instance : Try.f18.isInstance Try.pinned.checked.prog Rows.ledgerPlaysRow.origin Rows.ledgerPlaysRow.targs := of_decide_eq_true (by kernel_rfl)
theorem LedgerPlays_wrapper : Try.f18.isWrapper Try.pinned.checked.prog Rows.ledgerPlaysRow.wrapper Rows.ledgerPlaysRow.mainSum := by unfold Func.isWrapper; rw [if_neg (by decide +kernel)]; exact ⟨rfl, rfl⟩

/-- The statement. -/
theorem LedgerPlays_holds : Rows.LedgerPlaysSaid :=
  OpenClaim.holds_of_wide 18 Try.f18 rfl rfl rfl rfl rfl rfl rfl ⟨rfl, rfl, rfl, rfl, rfl⟩ rfl rfl rfl rfl rfl LedgerPlays_named Try.func18 LedgerPlays_closed LedgerPlays_instance LedgerPlays_wrapper
    (fun os started H enc _ => LedgerPlays_lifted os started H enc)
end Go.Proofs.Yteockodnfempfaa
