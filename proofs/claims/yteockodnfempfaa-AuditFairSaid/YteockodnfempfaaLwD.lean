/- The statement AuditFair: it returns true at every input, and its arguments read as before. Conditions: none. -/
import Derived.Test.YteockodnfempfaaLwK
import Derived.Test.YteockodnfempfaaOpA
import Derived.Test.YteockodnfempfaaAudM
namespace Go.Proofs.Yteockodnfempfaa
open Go Go.RowKit Go.Gv Go.ChangeShapes Go.WideShapes Go.ChangeAt

set_option maxRecDepth 100000 in
theorem AuditFair_lifted (os : Os) (started : os.Started) (H : Type) (enc : TypeId × Value → H) :
    ReturnsInHanded {} Try.checked os 5 .any (Rows.auditFairSpec.pre6 enc Try.prog Try.f5 Rows.auditFairRow.domain false) (Rows.auditFairSpec.post enc Try.prog Try.f5 false true false false) := by
  refine returnsInHanded_of_change (C := Try.checked) ownK started (by kernel_rfl) Try.func5
    (ChangeSpec.witness6 (enc := enc) (C := Try.checked) false ⟨#[], #[.slice none 0 0, .slice none 0 0, .slice none 0 0], []⟩ 8 (by kernel_rfl) (by kernel_rfl) (by kernel_rfl) (by kernel_rfl)) ?_
  intro W base args ds gs before hval0 hW _ _
  have hval : ∀ (j : Nat) t v, Try.f5.params[j]? = some t → args[j]? = some v → Value.okWide Try.prog W .any base t v := hval0
  have hW' := hW
  obtain ⟨p, q, hA0, hV, rfl, hfz, hnd⟩ := hW
  have hA : DataW.TrodAll enc Try.prog W 0 (fun _ => true) true Try.f5.params.toList args.toList ds p := hA0
  rw [Try.params5] at hA hval
  obtain ⟨v0, v1, v2, d0, d1, d2, p0, p1, p2, rfl, rfl, rfl, h0, h1, h2⟩ := trodAll_three hA
  obtain ⟨rfl, rfl⟩ := trodVars_none hV
  obtain ⟨A0, n0, c0, rfl, x0, hx0, ho0, hc0, hm0⟩ := arg_slice Try.underlying39 (op39 W) (hval 0 _ _ rfl rfl) h0
  obtain ⟨A1, n1, c1, rfl, x1, hx1, ho1, hc1, hm1⟩ := arg_slice Try.underlying41 (op41 W) (hval 1 _ _ rfl rfl) h1
  obtain ⟨A2, n2, c2, rfl, x2, hx2, ho2, hc2, hm2⟩ := arg_slice Try.underlying42 (op42 W) (hval 2 _ _ rfl rfl) h2
  refine (auditFair_in A0 A1 A2 n0 c0 n1 c1 n2 c2 x0 x1 x2 W hx0 ho0 (Nat.le_trans hc0 hm0) hx1 ho1 (Nat.le_trans hc1 hm1) hx2 ho2 (Nat.le_trans hc2 hm2)).mono fun e W' ⟨he, hb⟩ => ?_
  subst he
  exact ⟨_, rfl, law_post laidK (by kernel_rfl) (by kernel_rfl) (tb := 4) (by kernel_rfl) hW' rfl rfl hb⟩

theorem AuditFair_named : Try.pinned.checked.prog.funcNamed Rows.auditFairRow.func = some 5 := by kernel_rfl
theorem AuditFair_closed : joinedFacts Try.pinned.checked.prog 5 Try.f5 Rows.auditFairSpec Rows.auditFairRow = true := by kernel_rfl
theorem AuditFair_instance : Try.f5.isInstance Try.pinned.checked.prog Rows.auditFairRow.origin Rows.auditFairRow.targs := of_decide_eq_true (by kernel_rfl)
theorem AuditFair_wrapper : Try.f5.isWrapper Try.pinned.checked.prog Rows.auditFairRow.wrapper Rows.auditFairRow.mainSum := by unfold Func.isWrapper; rw [if_neg (by decide +kernel)]; exact ⟨rfl, rfl⟩

/-- The statement. -/
theorem AuditFair_holds : Rows.AuditFairSaid :=
  OpenClaim.holds_of_wide 5 Try.f5 rfl rfl rfl rfl rfl rfl rfl ⟨rfl, rfl, rfl, rfl, rfl⟩ rfl rfl rfl rfl rfl AuditFair_named Try.func5 AuditFair_closed AuditFair_instance AuditFair_wrapper
    (fun os started H enc _ => AuditFair_lifted os started H enc)
end Go.Proofs.Yteockodnfempfaa
