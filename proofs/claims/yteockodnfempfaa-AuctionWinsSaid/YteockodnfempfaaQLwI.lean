/- The statement AuctionWins: it returns true at every input, and its arguments read as before. Conditions: none. -/
import Derived.Test.YteockodnfempfaaP2
import Derived.Test.YteockodnfempfaaP6
/- The statement AuctionWins: it returns true at every input, and its arguments read as before. Conditions: none. -/
namespace Go.Proofs.Yteockodnfempfaa
open Go Go.RowKit Go.Gv Go.ChangeShapes Go.WideShapes Go.ChangeAt

set_option maxRecDepth 100000 in
theorem AuctionWins_lifted (os : Os) (started : os.Started) (H : Type) (enc : TypeId × Value → H) :
    ReturnsInHanded {} Try.checked os 8 .any (Rows.auctionWinsSpec.pre6 enc Try.prog Try.f8 Rows.auctionWinsRow.domain false) (Rows.auctionWinsSpec.post enc Try.prog Try.f8 false true false false) := by
  refine returnsInHanded_of_change (C := Try.checked) ownK started (by kernel_rfl) Try.func8
    (ChangeSpec.witness6 (enc := enc) (C := Try.checked) false ⟨#[], #[.slice none 0 0, .int .i64 0, .int .i64 0, .bool false], []⟩ 8 (by kernel_rfl) (by kernel_rfl) (by kernel_rfl) (by kernel_rfl)) ?_
  intro W base args ds gs before hval0 hW _ _
  have hval : ∀ (j : Nat) t v, Try.f8.params[j]? = some t → args[j]? = some v → Value.okWide Try.prog W .any base t v := hval0
  have hW' := hW
  obtain ⟨p, q, hA0, hV, rfl, hfz, hnd⟩ := hW
  have hA : DataW.TrodAll enc Try.prog W 0 (fun _ => true) true Try.f8.params.toList args.toList ds p := hA0
  rw [Try.params8] at hA hval
  obtain ⟨v0, v1, v2, v3, d0, d1, d2, d3, p0, p1, p2, p3, rfl, rfl, rfl, h0, h1, h2, h3⟩ := trodAll_four hA
  obtain ⟨rfl, rfl⟩ := trodVars_none hV
  obtain ⟨A0, n0, c0, rfl, x0, hx0, ho0, hc0, hm0⟩ := arg_slice Try.underlying45 (op45 W) (hval 0 _ _ rfl rfl) h0
  obtain ⟨n1, rfl, hn1⟩ := arg_int (k := .i64) (by kernel_rfl) (hval 1 _ _ rfl rfl) h1
  obtain ⟨n2, rfl, hn2⟩ := arg_int (k := .i64) (by kernel_rfl) (hval 2 _ _ rfl rfl) h2
  obtain ⟨b3, rfl⟩ := arg_bool (by kernel_rfl) (hval 3 _ _ rfl rfl)
  refine (wins_any A0 n0 c0 x0 n1 n2 b3 W hx0 (fun x hx => FitI.i64 (ho0 x hx)) (Nat.le_trans hc0 hm0) (FitI.i64 hn2).1 (FitI.i64 hn2).2 (FitI.i64 hn1).1 (FitI.i64 hn1).2).mono fun e W' ⟨he, hb⟩ => ?_
  subst he
  exact ⟨_, rfl, law_post laidK (by kernel_rfl) (by kernel_rfl) (tb := 4) (by kernel_rfl) hW' rfl rfl hb⟩

theorem AuctionWins_named : Try.pinned.checked.prog.funcNamed Rows.auctionWinsRow.func = some 8 := by kernel_rfl
theorem AuctionWins_closed : joinedFacts Try.pinned.checked.prog 8 Try.f8 Rows.auctionWinsSpec Rows.auctionWinsRow = true := by kernel_rfl
theorem AuctionWins_instance : Try.f8.isInstance Try.pinned.checked.prog Rows.auctionWinsRow.origin Rows.auctionWinsRow.targs := of_decide_eq_true (by kernel_rfl)
theorem AuctionWins_wrapper : Try.f8.isWrapper Try.pinned.checked.prog Rows.auctionWinsRow.wrapper Rows.auctionWinsRow.mainSum := by unfold Func.isWrapper; rw [if_neg (by decide +kernel)]; exact ⟨rfl, rfl⟩

/-- The statement. -/
theorem AuctionWins_holds : Rows.AuctionWinsSaid :=
  OpenClaim.holds_of_wide 8 Try.f8 rfl rfl rfl rfl rfl rfl rfl ⟨rfl, rfl, rfl, rfl, rfl⟩ rfl rfl rfl rfl rfl AuctionWins_named Try.func8 AuctionWins_closed AuctionWins_instance AuctionWins_wrapper
    (fun os started H enc _ => AuctionWins_lifted os started H enc)
end Go.Proofs.Yteockodnfempfaa
