/- The statement AuctionTimes: it returns true at every input, and its arguments read as before. Conditions: none. -/
import Derived.Test.YteockodnfempfaaLwK
import Derived.Test.YteockodnfempfaaAuU
namespace Go.Proofs.Yteockodnfempfaa
open Go Go.RowKit Go.Gv Go.ChangeShapes Go.WideShapes Go.ChangeAt

set_option maxRecDepth 100000 in
theorem AuctionTimes_lifted (os : Os) (started : os.Started) (H : Type) (enc : TypeId × Value → H) :
    ReturnsInHanded {} Try.checked os 11 .any (Rows.auctionTimesSpec.pre6 enc Try.prog Try.f11 Rows.auctionTimesRow.domain false) (Rows.auctionTimesSpec.post enc Try.prog Try.f11 false true false false) := by
  refine returnsInHanded_of_change (C := Try.checked) ownK started (by kernel_rfl) Try.func11
    (ChangeSpec.witness6 (enc := enc) (C := Try.checked) false ⟨#[], #[.int .u64 0, .int .u64 0, .int .u64 0, .int .i64 0], []⟩ 8 (by kernel_rfl) (by kernel_rfl) (by kernel_rfl) (by kernel_rfl)) ?_
  intro W base args ds gs before hval0 hW _ _
  have hval : ∀ (j : Nat) t v, Try.f11.params[j]? = some t → args[j]? = some v → Value.okWide Try.prog W .any base t v := hval0
  have hW' := hW
  obtain ⟨p, q, hA0, hV, rfl, hfz, hnd⟩ := hW
  have hA : DataW.TrodAll enc Try.prog W 0 (fun _ => true) true Try.f11.params.toList args.toList ds p := hA0
  rw [Try.params11] at hA hval
  obtain ⟨v0, v1, v2, v3, d0, d1, d2, d3, p0, p1, p2, p3, rfl, rfl, rfl, h0, h1, h2, h3⟩ := trodAll_four hA
  obtain ⟨rfl, rfl⟩ := trodVars_none hV
  obtain ⟨n0, rfl, hn0⟩ := arg_int (k := .u64) (by kernel_rfl) (hval 0 _ _ rfl rfl) h0
  obtain ⟨n1, rfl, hn1⟩ := arg_int (k := .u64) (by kernel_rfl) (hval 1 _ _ rfl rfl) h1
  obtain ⟨n2, rfl, hn2⟩ := arg_int (k := .u64) (by kernel_rfl) (hval 2 _ _ rfl rfl) h2
  obtain ⟨n3, rfl, hn3⟩ := arg_int (k := .i64) (by kernel_rfl) (hval 3 _ _ rfl rfl) h3
  refine (times_any n0 n1 n2 n3 W (FitI.u64 hn0).1 (FitI.u64 hn0).2 (FitI.u64 hn1).1 (FitI.u64 hn1).2 (FitI.u64 hn2).1 (FitI.u64 hn2).2 (FitI.i64 hn3).1 (FitI.i64 hn3).2).mono fun e W' ⟨he, hb⟩ => ?_
  subst he
  exact ⟨_, rfl, law_post laidK (by kernel_rfl) (by kernel_rfl) (tb := 4) (by kernel_rfl) hW' rfl rfl hb⟩

theorem AuctionTimes_named : Try.pinned.checked.prog.funcNamed Rows.auctionTimesRow.func = some 11 := by kernel_rfl
theorem AuctionTimes_closed : joinedFacts Try.pinned.checked.prog 11 Try.f11 Rows.auctionTimesSpec Rows.auctionTimesRow = true := by kernel_rfl
theorem AuctionTimes_instance : Try.f11.isInstance Try.pinned.checked.prog Rows.auctionTimesRow.origin Rows.auctionTimesRow.targs := of_decide_eq_true (by kernel_rfl)
theorem AuctionTimes_wrapper : Try.f11.isWrapper Try.pinned.checked.prog Rows.auctionTimesRow.wrapper Rows.auctionTimesRow.mainSum := by unfold Func.isWrapper; rw [if_neg (by decide +kernel)]; exact ⟨rfl, rfl⟩

/-- The statement. -/
theorem AuctionTimes_holds : Rows.AuctionTimesSaid :=
  OpenClaim.holds_of_wide 11 Try.f11 rfl rfl rfl rfl rfl rfl rfl ⟨rfl, rfl, rfl, rfl, rfl⟩ rfl rfl rfl rfl rfl AuctionTimes_named Try.func11 AuctionTimes_closed AuctionTimes_instance AuctionTimes_wrapper
    (fun os started H enc _ => AuctionTimes_lifted os started H enc)
end Go.Proofs.Yteockodnfempfaa
