/- The statement AuditLog: it returns true at every input, and its arguments read as before. Conditions: none. -/
import Derived.Test.YteockodnfempfaaP2
import Derived.Test.YteockodnfempfaaP9
import Derived.Test.YteockodnfempfaaP15
/- The statement AuditLog: it returns true at every input, and its arguments read as before. Conditions: none. -/
namespace Go.Proofs.Yteockodnfempfaa
open Go Go.RowKit Go.Gv Go.ChangeShapes Go.WideShapes Go.ChangeAt

set_option maxRecDepth 100000 in
theorem AuditLog_lifted (os : Os) (started : os.Started) (H : Type) (enc : TypeId × Value → H) :
    ReturnsInHanded {} Try.checked os 17 .any (Rows.auditLogSpec.pre6 enc Try.prog Try.f17 Rows.auditLogRow.domain false) (Rows.auditLogSpec.post enc Try.prog Try.f17 false true false false) := by
  refine returnsInHanded_of_change (C := Try.checked) ownK started (by kernel_rfl) Try.func17
    (ChangeSpec.witness6 (enc := enc) (C := Try.checked) false ⟨#[], #[.slice none 0 0], []⟩ 8 (by kernel_rfl) (by kernel_rfl) (by kernel_rfl) (by kernel_rfl)) ?_
  intro W base args ds gs before hval0 hW _ _
  have hval : ∀ (j : Nat) t v, Try.f17.params[j]? = some t → args[j]? = some v → Value.okWide Try.prog W .any base t v := hval0
  have hW' := hW
  obtain ⟨p, q, hA0, hV, rfl, hfz, hnd⟩ := hW
  have hA : DataW.TrodAll enc Try.prog W 0 (fun _ => true) true Try.f17.params.toList args.toList ds p := hA0
  rw [Try.params17] at hA hval
  obtain ⟨v0, d0, rfl, rfl, h0⟩ := trodAll_one hA
  obtain ⟨rfl, rfl⟩ := trodVars_none hV
  obtain ⟨A0, n0, c0, rfl, x0, hx0, ho0, hc0, hm0⟩ := arg_slice Try.underlying65 (op65 W) (hval 0 _ _ rfl rfl) h0
  refine (auditLogs_any A0 n0 c0 x0 W hx0 ho0 (Nat.le_trans hc0 hm0)).mono fun e W' ⟨he, hb⟩ => ?_
  subst he
  exact ⟨_, rfl, law_post laidK (by kernel_rfl) (by kernel_rfl) (tb := 4) (by kernel_rfl) hW' rfl rfl hb⟩

theorem AuditLog_named : Try.pinned.checked.prog.funcNamed Rows.auditLogRow.func = some 17 := by kernel_rfl
theorem AuditLog_c0 : (Rows.auditLogRow.wf (OpenSpec.ofChange Rows.auditLogSpec)) = true := by kernel_rfl
theorem AuditLog_c1 : (laidOutB Try.pinned.checked.prog) = true := by kernel_rfl
theorem AuditLog_c2 : (mapsRowed Try.pinned.checked.prog) = true := by kernel_rfl
theorem AuditLog_c3 : (Try.f17.params.all (Try.pinned.checked.prog.readableRec ·)) = true := by kernel_rfl
theorem AuditLog_c4 : (namedTie Try.pinned.checked.prog Rows.auditLogRow.named Rows.auditLogSpec.vars) = true := by kernel_rfl
theorem AuditLog_c5 : ((Rows.auditLogRow.stops == [])) = true := by kernel_rfl
theorem AuditLog_c6 : ((Try.pinned.checked.prog.stops == [])) = true := by kernel_rfl
theorem AuditLog_c7 : ((Rows.auditLogRow.knobs == [])) = true := by kernel_rfl
theorem AuditLog_c8 : ((Try.pinned.checked.prog.stopKnobs == [])) = true := by kernel_rfl
theorem AuditLog_c9 : ((Rows.auditLogRow.inPlace == Try.pinned.checked.prog.inPlace 17)) = true := by kernel_rfl
theorem AuditLog_c10 : ((Rows.auditLogRow.unfollowed == Try.pinned.checked.prog.unfollowed 17)) = true := by kernel_rfl
theorem AuditLog_c11 : ((Rows.auditLogRow.recurses == Try.pinned.checked.prog.recurses 17)) = true := by kernel_rfl
theorem AuditLog_c12 : ((Rows.auditLogRow.named == Try.pinned.checked.prog.varsNamed 17)) = true := by kernel_rfl
theorem AuditLog_c13 : ((Rows.auditLogRow.maps == (Try.f17.params.toList ++ Rows.auditLogSpec.plain.varTypes Try.pinned.checked.prog).any (Try.pinned.checked.prog.mapsRec ·))) = true := by kernel_rfl
theorem AuditLog_c14 : ((Rows.auditLogRow.ifaces == (Try.f17.params.toList ++ Rows.auditLogSpec.plain.varTypes Try.pinned.checked.prog).any (Try.pinned.checked.prog.ifacesRec ·))) = true := by kernel_rfl
theorem AuditLog_c15 : ((Rows.auditLogRow.mapsOut == Try.pinned.checked.prog.mapsAmong Try.f17.resultTypes.toList)) = true := by kernel_rfl
theorem AuditLog_c16 : ((Rows.auditLogRow.loops == (Try.f17.params.toList ++ Rows.auditLogSpec.plain.varTypes Try.pinned.checked.prog).any (Try.pinned.checked.prog.loopsFrom ·))) = true := by kernel_rfl
theorem AuditLog_c17 : ((Rows.auditLogRow.wideKeys == (Try.f17.params.toList ++ Rows.auditLogSpec.plain.varTypes Try.pinned.checked.prog ++ Try.f17.resultTypes.toList).any (Try.pinned.checked.prog.wideKeysFrom ·))) = true := by kernel_rfl
theorem AuditLog_c18 : (Rows.auditLogSpec.vars.all (Try.pinned.checked.prog.varReadable ·)) = true := by kernel_rfl
theorem AuditLog_c19 : (Try.f17.resultTypes.all (fun t => Try.pinned.checked.prog.readableRec t && decide (t < Try.pinned.checked.prog.types.size))) = true := by kernel_rfl
theorem AuditLog_c20 : ((Rows.auditLogRow.ifacesOut == Try.f17.resultTypes.toList.any (Try.pinned.checked.prog.ifacesRec ·))) = true := by kernel_rfl
theorem AuditLog_c21 : ((Rows.auditLogRow.loopsOut == Try.f17.resultTypes.toList.any (Try.pinned.checked.prog.loopsFrom ·))) = true := by kernel_rfl
theorem AuditLog_c22 : ((Rows.auditLogRow.plainKeys == Try.pinned.checked.prog.plainKeys)) = true := by kernel_rfl
theorem AuditLog_c23 : (Rows.auditLogRow.shortTexts.isNone) = true := by kernel_rfl
theorem AuditLog_c24 : (Try.pinned.checked.prog.stopsHeard) = true := by kernel_rfl
theorem AuditLog_c25 : (Try.pinned.checked.prog.mayEnter) = true := by kernel_rfl
theorem AuditLog_c26 : ((Rows.auditLogRow.lifted == Try.pinned.checked.prog.liftsFinal)) = true := by kernel_rfl
theorem AuditLog_c27 : ((Try.pinned.checked.prog.make == some Rows.auditLogRow.make)) = true := by kernel_rfl
theorem AuditLog_c28 : ((Rows.auditLogRow.kinds == (if Rows.auditLogRow.domain.isEmpty then [] else Try.f17.params.toList.map fun t => match Try.pinned.checked.prog.underlying t with | some (.int k) => some k | _ => none))) = true := by kernel_rfl
theorem AuditLog_c29 : ((Rows.auditLogRow.pinned == Rows.auditLogRow.pinnedBy)) = true := by kernel_rfl
theorem AuditLog_c30 : ((Rows.auditLogRow.veiled == (Try.f17.params.toList ++ Rows.auditLogSpec.plain.varTypes Try.pinned.checked.prog ++ Try.f17.resultTypes.toList).any (Try.pinned.checked.prog.veiledRec ·))) = true := by kernel_rfl
theorem AuditLog_c31 : (Rows.auditLogRow.veiledFits Try.pinned.checked.prog Try.f17.params.toList (Try.f17.params.toList ++ Rows.auditLogSpec.plain.varTypes Try.pinned.checked.prog ++ Try.f17.resultTypes.toList)) = true := by kernel_rfl
theorem and2 {a b : Bool} (ha : a = true) (hb : b = true) : (a && b) = true := by rw [ha, hb]; rfl
set_option maxRecDepth 100000 in
theorem AuditLog_closed : joinedFacts Try.pinned.checked.prog 17 Try.f17 Rows.auditLogSpec Rows.auditLogRow = true := by
  unfold joinedFacts
  exact (and2 (and2 (and2 (and2 (and2 (and2 (and2 (and2 (and2 (and2 (and2 (and2 (and2 (and2 (and2 (and2 (and2 (and2 (and2 (and2 (and2 (and2 (and2 (and2 (and2 (and2 (and2 (and2 (and2 (and2 (and2 AuditLog_c0 AuditLog_c1) AuditLog_c2) AuditLog_c3) AuditLog_c4) AuditLog_c5) AuditLog_c6) AuditLog_c7) AuditLog_c8) AuditLog_c9) AuditLog_c10) AuditLog_c11) AuditLog_c12) AuditLog_c13) AuditLog_c14) AuditLog_c15) AuditLog_c16) AuditLog_c17) AuditLog_c18) AuditLog_c19) AuditLog_c20) AuditLog_c21) AuditLog_c22) AuditLog_c23) AuditLog_c24) AuditLog_c25) AuditLog_c26) AuditLog_c27) AuditLog_c28) AuditLog_c29) AuditLog_c30) AuditLog_c31)
theorem AuditLog_instance : Try.f17.isInstance Try.pinned.checked.prog Rows.auditLogRow.origin Rows.auditLogRow.targs := of_decide_eq_true (by kernel_rfl)
theorem AuditLog_wrapper : Try.f17.isWrapper Try.pinned.checked.prog Rows.auditLogRow.wrapper Rows.auditLogRow.mainSum := by unfold Func.isWrapper; rw [if_neg (by decide +kernel)]; exact ⟨rfl, rfl⟩

/-- The statement. -/
theorem AuditLog_holds : Rows.AuditLogSaid :=
  OpenClaim.holds_of_wide 17 Try.f17 rfl rfl rfl rfl rfl rfl rfl ⟨rfl, rfl, rfl, rfl, rfl⟩ rfl rfl rfl rfl rfl AuditLog_named Try.func17 AuditLog_closed AuditLog_instance AuditLog_wrapper
    (fun os started H enc _ => AuditLog_lifted os started H enc)
end Go.Proofs.Yteockodnfempfaa
