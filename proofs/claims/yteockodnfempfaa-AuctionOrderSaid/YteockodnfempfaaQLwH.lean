/- The statement AuctionOrder: it returns true at every input, and its arguments read as before. Conditions: none. -/
import Derived.Test.YteockodnfempfaaP2
import Derived.Test.YteockodnfempfaaP7
/- The statement AuctionOrder: it returns true at every input, and its arguments read as before. Conditions: none. -/
namespace Go.Proofs.Yteockodnfempfaa
open Go Go.RowKit Go.Gv Go.ChangeShapes Go.WideShapes Go.ChangeAt

set_option maxRecDepth 100000 in
theorem AuctionOrder_lifted (os : Os) (started : os.Started) (H : Type) (enc : TypeId × Value → H) :
    ReturnsInHanded {} Try.checked os 9 .any (Rows.auctionOrderSpec.pre6 enc Try.prog Try.f9 Rows.auctionOrderRow.domain false) (Rows.auctionOrderSpec.post enc Try.prog Try.f9 false true false false) := by
  refine returnsInHanded_of_change (C := Try.checked) ownK started (by kernel_rfl) Try.func9
    (ChangeSpec.witness6 (enc := enc) (C := Try.checked) false ⟨#[], #[.slice none 0 0, .int .i64 0, .int .i64 0, .bool false], []⟩ 8 (by kernel_rfl) (by kernel_rfl) (by kernel_rfl) (by kernel_rfl)) ?_
  intro W base args ds gs before hval0 hW _ _
  have hval : ∀ (j : Nat) t v, Try.f9.params[j]? = some t → args[j]? = some v → Value.okWide Try.prog W .any base t v := hval0
  have hW' := hW
  obtain ⟨p, q, hA0, hV, rfl, hfz, hnd⟩ := hW
  have hA : DataW.TrodAll enc Try.prog W 0 (fun _ => true) true Try.f9.params.toList args.toList ds p := hA0
  rw [Try.params9] at hA hval
  obtain ⟨v0, v1, v2, v3, d0, d1, d2, d3, p0, p1, p2, p3, rfl, rfl, rfl, h0, h1, h2, h3⟩ := trodAll_four hA
  obtain ⟨rfl, rfl⟩ := trodVars_none hV
  obtain ⟨A0, n0, c0, rfl, x0, hx0, ho0, hc0, hm0⟩ := arg_slice Try.underlying45 (op45 W) (hval 0 _ _ rfl rfl) h0
  obtain ⟨n1, rfl, hn1⟩ := arg_int (k := .i64) (by kernel_rfl) (hval 1 _ _ rfl rfl) h1
  obtain ⟨n2, rfl, hn2⟩ := arg_int (k := .i64) (by kernel_rfl) (hval 2 _ _ rfl rfl) h2
  obtain ⟨b3, rfl⟩ := arg_bool (by kernel_rfl) (hval 3 _ _ rfl rfl)
  refine (order_any A0 n0 c0 x0 n1 n2 b3 W hx0 (fun x hx => FitI.i64 (ho0 x hx)) (Nat.le_trans hc0 hm0) (FitI.i64 hn1).1 (FitI.i64 hn1).2 (FitI.i64 hn2).1 (FitI.i64 hn2).2).mono fun e W' ⟨he, hb⟩ => ?_
  subst he
  exact ⟨_, rfl, law_post laidK (by kernel_rfl) (by kernel_rfl) (tb := 4) (by kernel_rfl) hW' rfl rfl hb⟩

theorem AuctionOrder_named : Try.pinned.checked.prog.funcNamed Rows.auctionOrderRow.func = some 9 := by kernel_rfl
theorem AuctionOrder_closed : joinedFacts Try.pinned.checked.prog 9 Try.f9 Rows.auctionOrderSpec Rows.auctionOrderRow = true := by kernel_rfl
theorem AuctionOrder_instance : Try.f9.isInstance Try.pinned.checked.prog Rows.auctionOrderRow.origin Rows.auctionOrderRow.targs := of_decide_eq_true (by kernel_rfl)
theorem AuctionOrder_wrapper : Try.f9.isWrapper Try.pinned.checked.prog Rows.auctionOrderRow.wrapper Rows.auctionOrderRow.mainSum := by unfold Func.isWrapper; rw [if_neg (by decide +kernel)]; exact ⟨rfl, rfl⟩

/-- The statement. -/
theorem AuctionOrder_holds : Rows.AuctionOrderSaid :=
  OpenClaim.holds_of_wide 9 Try.f9 rfl rfl rfl rfl rfl rfl rfl ⟨rfl, rfl, rfl, rfl, rfl⟩ rfl rfl rfl rfl rfl AuctionOrder_named Try.func9 AuctionOrder_closed AuctionOrder_instance AuctionOrder_wrapper
    (fun os started H enc _ => AuctionOrder_lifted os started H enc)
end Go.Proofs.Yteockodnfempfaa
