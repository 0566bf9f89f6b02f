/- The statement AuditGrows: it returns true at every input, and its arguments read as before. Conditions: none. -/
import Derived.Test.YteockodnfempfaaOpA
import Derived.Test.YteockodnfempfaaAudI
namespace Go.Proofs.Yteockodnfempfaa
open Go Go.RowKit Go.Gv Go.ChangeShapes Go.WideShapes Go.ChangeAt

theorem ownK : ownKnob Try.prog.godebug = none := by kernel_rfl
theorem laidK : laidOutB Try.prog = true := by kernel_rfl

theorem entryOk {W : World} {x : GEntry} (h : ok30 W x) : EntryOk x := ⟨⟨(FitI.i64 h.1.1).1, (FitI.i64 h.1.1).2⟩, ⟨(FitI.i64 h.1.2).1, (FitI.i64 h.1.2).2⟩, (FitI.u64 h.2.2).1, (FitI.u64 h.2.2).2⟩

set_option maxRecDepth 100000 in
theorem grows_lifted (os : Os) (started : os.Started) (H : Type) (enc : TypeId × Value → H) :
    ReturnsInHanded {} Try.checked os 3 .any (Rows.auditGrowsSpec.pre6 enc Try.prog Try.f3 Rows.auditGrowsRow.domain false) (Rows.auditGrowsSpec.post enc Try.prog Try.f3 false true false false) := by
  refine returnsInHanded_of_change (C := Try.checked) ownK started (by kernel_rfl) Try.func3
    (ChangeSpec.witness6 (enc := enc) (C := Try.checked) false ⟨#[], #[.slice none 0 0, .slice none 0 0, .int .i64 0], []⟩ 8 (by kernel_rfl) (by kernel_rfl) (by kernel_rfl) (by kernel_rfl)) ?_
  intro W base args ds gs before hval0 hW _ _
  have hval : ∀ (j : Nat) t v, Try.f3.params[j]? = some t → args[j]? = some v → Value.okWide Try.prog W .any base t v := hval0
  have hW' := hW
  obtain ⟨p, q, hA0, hV, rfl, hfz, hnd⟩ := hW
  have hA : DataW.TrodAll enc Try.prog W 0 (fun _ => true) true Try.f3.params.toList args.toList ds p := hA0
  rw [Try.params3] at hA hval
  obtain ⟨v0, v1, v2, d0, d1, d2, p0, p1, p2, rfl, rfl, rfl, h0, h1, h2⟩ := trodAll_three hA
  obtain ⟨rfl, rfl⟩ := trodVars_none hV
  obtain ⟨A0, n0, c0, rfl, xs, hx0, ho0, hc0, hm0⟩ := arg_slice Try.underlying22 (op22 W) (hval 0 _ _ rfl rfl) h0
  obtain ⟨A1, n1, c1, rfl, ys, hx1, ho1, hc1, hm1⟩ := arg_slice Try.underlying22 (op22 W) (hval 1 _ _ rfl rfl) h1
  obtain ⟨n, rfl, hn⟩ := arg_int (k := .i64) (by kernel_rfl) (hval 2 _ _ rfl rfl) h2
  refine (grows_any A0 A1 n0 c0 n1 c1 xs ys n W hx0 hx1 (fun x hx => entryOk (ho0 x hx)) (fun x hx => entryOk (ho1 x hx)) (Nat.le_trans hc0 hm0) (Nat.le_trans hc1 hm1) (FitI.i64 hn).1 (FitI.i64 hn).2).mono fun e W' ⟨he, hb⟩ => ?_
  subst he
  exact ⟨_, rfl, law_post laidK (by kernel_rfl) (by kernel_rfl) (tb := 4) (by kernel_rfl) hW' rfl rfl hb⟩

/-- The statement. -/
theorem AuditGrows_holds : Rows.AuditGrowsSaid :=
  OpenClaim.holds_of_wide 3 Try.f3 rfl rfl rfl rfl rfl rfl rfl ⟨rfl, rfl, rfl, rfl, rfl⟩ rfl rfl rfl rfl rfl (by kernel_rfl) Try.func3 (by kernel_rfl)
    (of_decide_eq_true (by kernel_rfl)) (by unfold Func.isWrapper; rw [if_neg (by decide +kernel)]; exact ⟨rfl, rfl⟩)
    (fun os started H enc _ => grows_lifted os started H enc)
end Go.Proofs.Yteockodnfempfaa
