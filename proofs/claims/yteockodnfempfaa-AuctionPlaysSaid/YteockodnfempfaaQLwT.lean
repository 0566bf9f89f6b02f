/- The statement AuctionPlays: it returns true at every input, and its arguments read as before. Conditions: none. -/
import Derived.Test.YteockodnfempfaaP2
import Derived.Test.YteockodnfempfaaP25
/- The statement AuctionPlays: it returns true at every input, and its arguments read as before. Conditions: none. -/
namespace Go.Proofs.Yteockodnfempfaa
open Go Go.RowKit Go.Gv Go.ChangeShapes Go.WideShapes Go.ChangeAt

set_option maxRecDepth 100000 in
theorem AuctionPlays_lifted (os : Os) (started : os.Started) (H : Type) (enc : TypeId × Value → H) :
    ReturnsInHanded {} Try.checked os 20 .any (Rows.auctionPlaysSpec.pre6 enc Try.prog Try.f20 Rows.auctionPlaysRow.domain false) (Rows.auctionPlaysSpec.post enc Try.prog Try.f20 false true false false) := by
  refine returnsInHanded_of_change (C := Try.checked) ownK started (by kernel_rfl) Try.func20
    (ChangeSpec.witness6 (enc := enc) (C := Try.checked) false ⟨#[], #[.slice none 0 0, .slice none 0 0], []⟩ 8 (by kernel_rfl) (by kernel_rfl) (by kernel_rfl) (by kernel_rfl)) ?_
  intro W base args ds gs before hval0 hW _ _
  have hval : ∀ (j : Nat) t v, Try.f20.params[j]? = some t → args[j]? = some v → Value.okWide Try.prog W .any base t v := hval0
  have hW' := hW
  obtain ⟨p, q, hA0, hV, rfl, hfz, hnd⟩ := hW
  have hA : DataW.TrodAll enc Try.prog W 0 (fun _ => true) true Try.f20.params.toList args.toList ds p := hA0
  rw [Try.params20] at hA hval
  obtain ⟨v0, v1, d0, d1, p0, p1, rfl, rfl, rfl, h0, h1⟩ := trodAll_two hA
  obtain ⟨rfl, rfl⟩ := trodVars_none hV
  obtain ⟨A0, n0, c0, rfl, x0, hx0, ho0, hc0, hm0⟩ := arg_slice Try.underlying131 (op131 W) (hval 0 _ _ rfl rfl) h0
  obtain ⟨A1, n1, c1, rfl, x1, hx1, ho1, hc1, hm1⟩ := arg_slice Try.underlying131 (op131 W) (hval 1 _ _ rfl rfl) h1
  refine (plays_any A0 n0 c0 x0 A1 n1 c1 x1 W hx0 (fun x hx => ⟨FitI.i64 (ho0 x hx).1, (ho0 x hx).2.2.2.1, FitI.u64 (ho0 x hx).2.2.2.2.1, FitI.u64 (ho0 x hx).2.2.2.2.2.1⟩) (Nat.le_trans hc0 hm0) hx1 (fun x hx => ⟨FitI.i64 (ho1 x hx).1, (ho1 x hx).2.2.2.1, FitI.u64 (ho1 x hx).2.2.2.2.1, FitI.u64 (ho1 x hx).2.2.2.2.2.1⟩) (Nat.le_trans hc1 hm1)).mono fun e W' ⟨he, hb⟩ => ?_
  subst he
  exact ⟨_, rfl, law_post laidK (by kernel_rfl) (by kernel_rfl) (tb := 4) (by kernel_rfl) hW' rfl rfl hb⟩

theorem AuctionPlays_named : Try.pinned.checked.prog.funcNamed Rows.auctionPlaysRow.func = some 20 := by kernel_rfl
theorem AuctionPlays_c0 : (Rows.auctionPlaysRow.wf (OpenSpec.ofChange Rows.auctionPlaysSpec)) = true := by kernel_rfl
theorem AuctionPlays_c1 : (laidOutB Try.pinned.checked.prog) = true := by kernel_rfl
theorem AuctionPlays_c2 : (mapsRowed Try.pinned.checked.prog) = true := by kernel_rfl
theorem AuctionPlays_c3 : (Try.f20.params.all (Try.pinned.checked.prog.readableRec ·)) = true := by kernel_rfl
theorem AuctionPlays_c4 : (namedTie Try.pinned.checked.prog Rows.auctionPlaysRow.named Rows.auctionPlaysSpec.vars) = true := by kernel_rfl
theorem AuctionPlays_c5 : ((Rows.auctionPlaysRow.stops == [])) = true := by kernel_rfl
theorem AuctionPlays_c6 : ((Try.pinned.checked.prog.stops == [])) = true := by kernel_rfl
theorem AuctionPlays_c7 : ((Rows.auctionPlaysRow.knobs == [])) = true := by kernel_rfl
theorem AuctionPlays_c8 : ((Try.pinned.checked.prog.stopKnobs == [])) = true := by kernel_rfl
theorem AuctionPlays_c9 : ((Rows.auctionPlaysRow.inPlace == Try.pinned.checked.prog.inPlace 20)) = true := by kernel_rfl
theorem AuctionPlays_c10 : ((Rows.auctionPlaysRow.unfollowed == Try.pinned.checked.prog.unfollowed 20)) = true := by kernel_rfl
theorem AuctionPlays_c11 : ((Rows.auctionPlaysRow.recurses == Try.pinned.checked.prog.recurses 20)) = true := by kernel_rfl
theorem AuctionPlays_c12 : ((Rows.auctionPlaysRow.named == Try.pinned.checked.prog.varsNamed 20)) = true := by kernel_rfl
theorem AuctionPlays_c13 : ((Rows.auctionPlaysRow.maps == (Try.f20.params.toList ++ Rows.auctionPlaysSpec.plain.varTypes Try.pinned.checked.prog).any (Try.pinned.checked.prog.mapsRec ·))) = true := by kernel_rfl
theorem AuctionPlays_c14 : ((Rows.auctionPlaysRow.ifaces == (Try.f20.params.toList ++ Rows.auctionPlaysSpec.plain.varTypes Try.pinned.checked.prog).any (Try.pinned.checked.prog.ifacesRec ·))) = true := by kernel_rfl
theorem AuctionPlays_c15 : ((Rows.auctionPlaysRow.mapsOut == Try.pinned.checked.prog.mapsAmong Try.f20.resultTypes.toList)) = true := by kernel_rfl
theorem AuctionPlays_c16 : ((Rows.auctionPlaysRow.loops == (Try.f20.params.toList ++ Rows.auctionPlaysSpec.plain.varTypes Try.pinned.checked.prog).any (Try.pinned.checked.prog.loopsFrom ·))) = true := by kernel_rfl
theorem AuctionPlays_c17 : ((Rows.auctionPlaysRow.wideKeys == (Try.f20.params.toList ++ Rows.auctionPlaysSpec.plain.varTypes Try.pinned.checked.prog ++ Try.f20.resultTypes.toList).any (Try.pinned.checked.prog.wideKeysFrom ·))) = true := by kernel_rfl
theorem AuctionPlays_c18 : (Rows.auctionPlaysSpec.vars.all (Try.pinned.checked.prog.varReadable ·)) = true := by kernel_rfl
theorem AuctionPlays_c19 : (Try.f20.resultTypes.all (fun t => Try.pinned.checked.prog.readableRec t && decide (t < Try.pinned.checked.prog.types.size))) = true := by kernel_rfl
theorem AuctionPlays_c20 : ((Rows.auctionPlaysRow.ifacesOut == Try.f20.resultTypes.toList.any (Try.pinned.checked.prog.ifacesRec ·))) = true := by kernel_rfl
theorem AuctionPlays_c21 : ((Rows.auctionPlaysRow.loopsOut == Try.f20.resultTypes.toList.any (Try.pinned.checked.prog.loopsFrom ·))) = true := by kernel_rfl
theorem AuctionPlays_c22 : ((Rows.auctionPlaysRow.plainKeys == Try.pinned.checked.prog.plainKeys)) = true := by kernel_rfl
theorem AuctionPlays_c23 : (Rows.auctionPlaysRow.shortTexts.isNone) = true := by kernel_rfl
theorem AuctionPlays_c24 : (Try.pinned.checked.prog.stopsHeard) = true := by kernel_rfl
theorem AuctionPlays_c25 : (Try.pinned.checked.prog.mayEnter) = true := by kernel_rfl
theorem AuctionPlays_c26 : ((Rows.auctionPlaysRow.lifted == Try.pinned.checked.prog.liftsFinal)) = true := by kernel_rfl
theorem AuctionPlays_c27 : ((Try.pinned.checked.prog.make == some Rows.auctionPlaysRow.make)) = true := by kernel_rfl
theorem AuctionPlays_c28 : ((Rows.auctionPlaysRow.kinds == (if Rows.auctionPlaysRow.domain.isEmpty then [] else Try.f20.params.toList.map fun t => match Try.pinned.checked.prog.underlying t with | some (.int k) => some k | _ => none))) = true := by kernel_rfl
theorem AuctionPlays_c29 : ((Rows.auctionPlaysRow.pinned == Rows.auctionPlaysRow.pinnedBy)) = true := by kernel_rfl
theorem AuctionPlays_c30 : ((Rows.auctionPlaysRow.veiled == (Try.f20.params.toList ++ Rows.auctionPlaysSpec.plain.varTypes Try.pinned.checked.prog ++ Try.f20.resultTypes.toList).any (Try.pinned.checked.prog.veiledRec ·))) = true := by kernel_rfl
theorem AuctionPlays_c31 : (Rows.auctionPlaysRow.veiledFits Try.pinned.checked.prog Try.f20.params.toList (Try.f20.params.toList ++ Rows.auctionPlaysSpec.plain.varTypes Try.pinned.checked.prog ++ Try.f20.resultTypes.toList)) = true := by kernel_rfl
theorem and2 {a b : Bool} (ha : a = true) (hb : b = true) : (a && b) = true := by rw [ha, hb]; rfl
set_option maxRecDepth 100000 in
theorem AuctionPlays_closed : joinedFacts Try.pinned.checked.prog 20 Try.f20 Rows.auctionPlaysSpec Rows.auctionPlaysRow = true := by
  unfold joinedFacts
  exact (and2 (and2 (and2 (and2 (and2 (and2 (and2 (and2 (and2 (and2 (and2 (and2 (and2 (and2 (and2 (and2 (and2 (and2 (and2 (and2 (and2 (and2 (and2 (and2 (and2 (and2 (and2 (and2 (and2 (and2 (and2 AuctionPlays_c0 AuctionPlays_c1) AuctionPlays_c2) AuctionPlays_c3) AuctionPlays_c4) AuctionPlays_c5) AuctionPlays_c6) AuctionPlays_c7) AuctionPlays_c8) AuctionPlays_c9) AuctionPlays_c10) AuctionPlays_c11) AuctionPlays_c12) AuctionPlays_c13) AuctionPlays_c14) AuctionPlays_c15) AuctionPlays_c16) AuctionPlays_c17) AuctionPlays_c18) AuctionPlays_c19) AuctionPlays_c20) AuctionPlays_c21) AuctionPlays_c22) AuctionPlays_c23) AuctionPlays_c24) AuctionPlays_c25) AuctionPlays_c26) AuctionPlays_c27) AuctionPlays_c28) AuctionPlays_c29) AuctionPlays_c30) AuctionPlays_c31)
theorem AuctionPlays_instance : Try.f20.isInstance Try.pinned.checked.prog Rows.auctionPlaysRow.origin Rows.auctionPlaysRow.targs := of_decide_eq_true (by kernel_rfl)
theorem AuctionPlays_wrapper : Try.f20.isWrapper Try.pinned.checked.prog Rows.auctionPlaysRow.wrapper Rows.auctionPlaysRow.mainSum := by unfold Func.isWrapper; rw [if_neg (by decide +kernel)]; exact ⟨rfl, rfl⟩

/-- The statement. -/
theorem AuctionPlays_holds : Rows.AuctionPlaysSaid :=
  OpenClaim.holds_of_wide 20 Try.f20 rfl rfl rfl rfl rfl rfl rfl ⟨rfl, rfl, rfl, rfl, rfl⟩ rfl rfl rfl rfl rfl AuctionPlays_named Try.func20 AuctionPlays_closed AuctionPlays_instance AuctionPlays_wrapper
    (fun os started H enc _ => AuctionPlays_lifted os started H enc)
end Go.Proofs.Yteockodnfempfaa
