/- The statement AuditBeginnings: it returns true at every input, and its arguments read as before. Conditions: none. -/
import Derived.Test.YteockodnfempfaaLwK
import Derived.Test.YteockodnfempfaaOpA
import Derived.Test.YteockodnfempfaaAudL
namespace Go.Proofs.Yteockodnfempfaa
open Go Go.RowKit Go.Gv Go.ChangeShapes Go.WideShapes Go.ChangeAt

set_option maxRecDepth 100000 in
theorem AuditBeginnings_lifted (os : Os) (started : os.Started) (H : Type) (enc : TypeId × Value → H) :
    ReturnsInHanded {} Try.checked os 7 .any (Rows.auditBeginningsSpec.pre6 enc Try.prog Try.f7 Rows.auditBeginningsRow.domain false) (Rows.auditBeginningsSpec.post enc Try.prog Try.f7 false true false false) := by
  refine returnsInHanded_of_change (C := Try.checked) ownK started (by kernel_rfl) Try.func7
    (ChangeSpec.witness6 (enc := enc) (C := Try.checked) false ⟨#[], #[.slice none 0 0, .int .i64 0, .slice none 0 0, .slice none 0 0], []⟩ 8 (by kernel_rfl) (by kernel_rfl) (by kernel_rfl) (by kernel_rfl)) ?_
  intro W base args ds gs before hval0 hW _ _
  have hval : ∀ (j : Nat) t v, Try.f7.params[j]? = some t → args[j]? = some v → Value.okWide Try.prog W .any base t v := hval0
  have hW' := hW
  obtain ⟨p, q, hA0, hV, rfl, hfz, hnd⟩ := hW
  have hA : DataW.TrodAll enc Try.prog W 0 (fun _ => true) true Try.f7.params.toList args.toList ds p := hA0
  rw [Try.params7] at hA hval
  obtain ⟨v0, v1, v2, v3, d0, d1, d2, d3, p0, p1, p2, p3, rfl, rfl, rfl, h0, h1, h2, h3⟩ := trodAll_four hA
  obtain ⟨rfl, rfl⟩ := trodVars_none hV
  obtain ⟨A0, n0, c0, rfl, x0, hx0, ho0, hc0, hm0⟩ := arg_slice Try.underlying22 (op22 W) (hval 0 _ _ rfl rfl) h0
  obtain ⟨n1, rfl, hn1⟩ := arg_int (k := .i64) (by kernel_rfl) (hval 1 _ _ rfl rfl) h1
  obtain ⟨A2, n2, c2, rfl, x2, hx2, ho2, hc2, hm2⟩ := arg_slice Try.underlying41 (op41 W) (hval 2 _ _ rfl rfl) h2
  obtain ⟨A3, n3, c3, rfl, x3, hx3, ho3, hc3, hm3⟩ := arg_slice Try.underlying42 (op42 W) (hval 3 _ _ rfl rfl) h3
  refine (begin_any A0 A2 A3 n0 c0 n2 c2 n3 c3 n1 x0 x2 x3 W hx0 (fun x hx => entryOk2 (ho0 x hx)) (Nat.le_trans hc0 hm0) hx2 ho2 (Nat.le_trans hc2 hm2) ⟨hx3, fun h hh => by obtain ⟨ys, h1, h2, h3, h4⟩ := ho3 h hh; exact ⟨ys, h1, fun y hy => FitI.u64 (h2 y hy), h3, h4⟩⟩ (Nat.le_trans hc3 hm3) (FitI.i64 hn1).1 (FitI.i64 hn1).2).mono fun e W' ⟨he, hb⟩ => ?_
  subst he
  exact ⟨_, rfl, law_post laidK (by kernel_rfl) (by kernel_rfl) (tb := 4) (by kernel_rfl) hW' rfl rfl hb⟩

theorem AuditBeginnings_named : Try.pinned.checked.prog.funcNamed Rows.auditBeginningsRow.func = some 7 := by kernel_rfl
theorem AuditBeginnings_closed : joinedFacts Try.pinned.checked.prog 7 Try.f7 Rows.auditBeginningsSpec Rows.auditBeginningsRow = true := by kernel_rfl
theorem AuditBeginnings_instance : Try.f7.isInstance Try.pinned.checked.prog Rows.auditBeginningsRow.origin Rows.auditBeginningsRow.targs := of_decide_eq_true (by kernel_rfl)
theorem AuditBeginnings_wrapper : Try.f7.isWrapper Try.pinned.checked.prog Rows.auditBeginningsRow.wrapper Rows.auditBeginningsRow.mainSum := by unfold Func.isWrapper; rw [if_neg (by decide +kernel)]; exact ⟨rfl, rfl⟩

/-- The statement. -/
theorem AuditBeginnings_holds : Rows.AuditBeginningsSaid :=
  OpenClaim.holds_of_wide 7 Try.f7 rfl rfl rfl rfl rfl rfl rfl ⟨rfl, rfl, rfl, rfl, rfl⟩ rfl rfl rfl rfl rfl AuditBeginnings_named Try.func7 AuditBeginnings_closed AuditBeginnings_instance AuditBeginnings_wrapper
    (fun os started H enc _ => AuditBeginnings_lifted os started H enc)
end Go.Proofs.Yteockodnfempfaa
