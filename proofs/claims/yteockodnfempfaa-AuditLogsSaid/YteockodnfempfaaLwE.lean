/- The statement AuditLogs: it returns true at every input, and its arguments read as before. Conditions: none. -/
import Derived.Test.YteockodnfempfaaLwK
import Derived.Test.YteockodnfempfaaOpA
import Derived.Test.YteockodnfempfaaAudN
namespace Go.Proofs.Yteockodnfempfaa
open Go Go.RowKit Go.Gv Go.ChangeShapes Go.WideShapes Go.ChangeAt

set_option maxRecDepth 100000 in
theorem AuditLogs_lifted (os : Os) (started : os.Started) (H : Type) (enc : TypeId × Value → H) :
    ReturnsInHanded {} Try.checked os 6 .any (Rows.auditLogsSpec.pre6 enc Try.prog Try.f6 Rows.auditLogsRow.domain false) (Rows.auditLogsSpec.post enc Try.prog Try.f6 false true false false) := by
  refine returnsInHanded_of_change (C := Try.checked) ownK started (by kernel_rfl) Try.func6
    (ChangeSpec.witness6 (enc := enc) (C := Try.checked) false ⟨#[], #[.slice none 0 0, .slice none 0 0], []⟩ 8 (by kernel_rfl) (by kernel_rfl) (by kernel_rfl) (by kernel_rfl)) ?_
  intro W base args ds gs before hval0 hW _ _
  have hval : ∀ (j : Nat) t v, Try.f6.params[j]? = some t → args[j]? = some v → Value.okWide Try.prog W .any base t v := hval0
  have hW' := hW
  obtain ⟨p, q, hA0, hV, rfl, hfz, hnd⟩ := hW
  have hA : DataW.TrodAll enc Try.prog W 0 (fun _ => true) true Try.f6.params.toList args.toList ds p := hA0
  rw [Try.params6] at hA hval
  obtain ⟨v0, v1, d0, d1, p0, p1, rfl, rfl, rfl, h0, h1⟩ := trodAll_two hA
  obtain ⟨rfl, rfl⟩ := trodVars_none hV
  obtain ⟨A0, n0, c0, rfl, x0, hx0, ho0, hc0, hm0⟩ := arg_slice Try.underlying39 (op39 W) (hval 0 _ _ rfl rfl) h0
  obtain ⟨A1, n1, c1, rfl, x1, hx1, ho1, hc1, hm1⟩ := arg_slice Try.underlying45 (op45 W) (hval 1 _ _ rfl rfl) h1
  refine (auditLogs_in A0 A1 n0 c0 n1 c1 x0 x1 W hx0 ho0 (Nat.le_trans hc0 hm0) hx1 ho1 (Nat.le_trans hc1 hm1)).mono fun e W' ⟨he, hb⟩ => ?_
  subst he
  exact ⟨_, rfl, law_post laidK (by kernel_rfl) (by kernel_rfl) (tb := 4) (by kernel_rfl) hW' rfl rfl hb⟩

theorem AuditLogs_named : Try.pinned.checked.prog.funcNamed Rows.auditLogsRow.func = some 6 := by kernel_rfl
theorem AuditLogs_closed : joinedFacts Try.pinned.checked.prog 6 Try.f6 Rows.auditLogsSpec Rows.auditLogsRow = true := by kernel_rfl
theorem AuditLogs_instance : Try.f6.isInstance Try.pinned.checked.prog Rows.auditLogsRow.origin Rows.auditLogsRow.targs := of_decide_eq_true (by kernel_rfl)
theorem AuditLogs_wrapper : Try.f6.isWrapper Try.pinned.checked.prog Rows.auditLogsRow.wrapper Rows.auditLogsRow.mainSum := by unfold Func.isWrapper; rw [if_neg (by decide +kernel)]; exact ⟨rfl, rfl⟩

/-- The statement. -/
theorem AuditLogs_holds : Rows.AuditLogsSaid :=
  OpenClaim.holds_of_wide 6 Try.f6 rfl rfl rfl rfl rfl rfl rfl ⟨rfl, rfl, rfl, rfl, rfl⟩ rfl rfl rfl rfl rfl AuditLogs_named Try.func6 AuditLogs_closed AuditLogs_instance AuditLogs_wrapper
    (fun os started H enc _ => AuditLogs_lifted os started H enc)
end Go.Proofs.Yteockodnfempfaa
