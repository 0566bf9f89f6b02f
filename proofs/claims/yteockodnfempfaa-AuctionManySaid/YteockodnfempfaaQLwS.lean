/- The statement AuctionMany: it returns true at every input, and its arguments read as before. Conditions: none. -/
import Derived.Test.YteockodnfempfaaP2
import Derived.Test.YteockodnfempfaaP22
/- The statement AuctionMany: it returns true at every input, and its arguments read as before. Conditions: none. -/
namespace Go.Proofs.Yteockodnfempfaa
open Go Go.RowKit Go.Gv Go.ChangeShapes Go.WideShapes Go.ChangeAt

set_option maxRecDepth 100000 in
theorem AuctionMany_lifted (os : Os) (started : os.Started) (H : Type) (enc : TypeId × Value → H) :
    ReturnsInHanded {} Try.checked os 19 .any (Rows.auctionManySpec.pre6 enc Try.prog Try.f19 Rows.auctionManyRow.domain false) (Rows.auctionManySpec.post enc Try.prog Try.f19 false true false false) := by
  refine returnsInHanded_of_change (C := Try.checked) ownK started (by kernel_rfl) Try.func19
    (ChangeSpec.witness6 (enc := enc) (C := Try.checked) false ⟨#[], #[.slice none 0 0, .int .i64 0, .int .u64 0], []⟩ 8 (by kernel_rfl) (by kernel_rfl) (by kernel_rfl) (by kernel_rfl)) ?_
  intro W base args ds gs before hval0 hW _ _
  have hval : ∀ (j : Nat) t v, Try.f19.params[j]? = some t → args[j]? = some v → Value.okWide Try.prog W .any base t v := hval0
  have hW' := hW
  obtain ⟨p, q, hA0, hV, rfl, hfz, hnd⟩ := hW
  have hA : DataW.TrodAll enc Try.prog W 0 (fun _ => true) true Try.f19.params.toList args.toList ds p := hA0
  rw [Try.params19] at hA hval
  obtain ⟨v0, v1, v2, d0, d1, d2, p0, p1, p2, rfl, rfl, rfl, h0, h1, h2⟩ := trodAll_three hA
  obtain ⟨rfl, rfl⟩ := trodVars_none hV
  obtain ⟨A0, n0, c0, rfl, x0, hx0, ho0, hc0, hm0⟩ := arg_slice Try.underlying36 (op36 W) (hval 0 _ _ rfl rfl) h0
  obtain ⟨n1, rfl, hn1⟩ := arg_int (k := .i64) (by kernel_rfl) (hval 1 _ _ rfl rfl) h1
  obtain ⟨n2, rfl, hn2⟩ := arg_int (k := .u64) (by kernel_rfl) (hval 2 _ _ rfl rfl) h2
  refine (many_any A0 n0 c0 x0 n1 n2 W hx0 (fun x hx => FitI.u64 (ho0 x hx)) (Nat.le_trans hc0 hm0) (FitI.i64 hn1).1 (FitI.i64 hn1).2 (FitI.u64 hn2).1 (FitI.u64 hn2).2).mono fun e W' ⟨he, hb⟩ => ?_
  subst he
  exact ⟨_, rfl, law_post laidK (by kernel_rfl) (by kernel_rfl) (tb := 4) (by kernel_rfl) hW' rfl rfl hb⟩

theorem AuctionMany_named : Try.pinned.checked.prog.funcNamed Rows.auctionManyRow.func = some 19 := by kernel_rfl
theorem AuctionMany_closed : joinedFacts Try.pinned.checked.prog 19 Try.f19 Rows.auctionManySpec Rows.auctionManyRow = true := by kernel_rfl
theorem AuctionMany_instance : Try.f19.isInstance Try.pinned.checked.prog Rows.auctionManyRow.origin Rows.auctionManyRow.targs := of_decide_eq_true (by kernel_rfl)
theorem AuctionMany_wrapper : Try.f19.isWrapper Try.pinned.checked.prog Rows.auctionManyRow.wrapper Rows.auctionManyRow.mainSum := by unfold Func.isWrapper; rw [if_neg (by decide +kernel)]; exact ⟨rfl, rfl⟩

/-- The statement. -/
theorem AuctionMany_holds : Rows.AuctionManySaid :=
  OpenClaim.holds_of_wide 19 Try.f19 rfl rfl rfl rfl rfl rfl rfl ⟨rfl, rfl, rfl, rfl, rfl⟩ rfl rfl rfl rfl rfl AuctionMany_named Try.func19 AuctionMany_closed AuctionMany_instance AuctionMany_wrapper
    (fun os started H enc _ => AuctionMany_lifted os started H enc)
end Go.Proofs.Yteockodnfempfaa
