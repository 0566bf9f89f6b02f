/- The statement AppSale and its tied card: it returns true at every input, and its arguments read as before. Conditions: none. -/
import Derived.Test.YtgeimnknmljplaaDoorP2
import Derived.Test.YtgeimnknmljplaaDoorP10
import Derived.Test.YtgeimnknmljplaaDoorCards
/- The statement AppSale and its tied card: it returns true at every input, and its arguments read as before. Conditions: none. -/
namespace Go.Proofs.YtgeimnknmljplaaDoor
open Go Go.RowKit Go.Gv Go.ChangeShapes Go.WideShapes Go.ChangeAt

theorem AppSale_zip (os : Os) : (((World.laidAll Tryd.prog os laidL).forCall (fun _ _ => 0) ⟨#[], #[.slice none 0 0, .int .i64 0, .int .i64 0, .bool false], []⟩)).variablesZipB Tryd.prog = true := by kernel_rfl
theorem AppSale_rest (os : Os) : ((((World.laidAll Tryd.prog os laidL).forCall (fun _ _ => 0) ⟨#[], #[.slice none 0 0, .int .i64 0, .int .i64 0, .bool false], []⟩)).heap.toList.drop Tryd.prog.globals.size).take ((begin Tryd.prog (fun _ _ => 0) default).world.heap.size - Tryd.prog.globals.size) = (begin Tryd.prog (fun _ _ => 0) default).world.heap.toList.drop Tryd.prog.globals.size := by kernel_rfl
theorem AppSale_ok (os : Os) : Input.okWideB Tryd.checked.prog (((World.laidAll Tryd.prog os laidL).forCall (fun _ _ => 0) ⟨#[], #[.slice none 0 0, .int .i64 0, .int .i64 0, .bool false], []⟩)) 3 ⟨#[], #[.slice none 0 0, .int .i64 0, .int .i64 0, .bool false], []⟩ = true := by kernel_rfl
theorem AppSale_pre (os : Os) (H : Type) (enc : TypeId × Value → H) : Rows.appSaleSpec.preB enc Tryd.checked.prog Tryd.f3 Rows.appSaleRow.domain false (((World.laidAll Tryd.prog os laidL).forCall (fun _ _ => 0) ⟨#[], #[.slice none 0 0, .int .i64 0, .int .i64 0, .bool false], []⟩)).memory #[.slice none 0 0, .int .i64 0, .int .i64 0, .bool false] 8 = true := by kernel_rfl
theorem AppSale_size (os : Os) (H : Type) (enc : TypeId × Value → H) : Rows.appSaleSpec.sizedB enc Tryd.checked.prog Tryd.f3 false (((World.laidAll Tryd.prog os laidL).forCall (fun _ _ => 0) ⟨#[], #[.slice none 0 0, .int .i64 0, .int .i64 0, .bool false], []⟩)).memory #[.slice none 0 0, .int .i64 0, .int .i64 0, .bool false] 8 = true := by kernel_rfl

set_option maxRecDepth 100000 in
theorem AppSale_lifted (os : Os) (started : os.Started) (H : Type) (enc : TypeId × Value → H) :
    ReturnsInHanded {} Tryd.checked os 3 .any (fun w args => (Rows.appSaleSpec.pre enc Tryd.prog Tryd.f3 Rows.appSaleRow.domain false w args ∧ laidMetH Tryd.prog Rows.appSaleRow.laid w) ∧ sizedMet enc Tryd.prog Tryd.f3 (OpenSpec.ofChange Rows.appSaleSpec) false w args)
      (Rows.appSaleSpec.post enc Tryd.prog Tryd.f3 false true false false) := by
  refine returns_laid (C := Tryd.checked) (laid := laidL) ownK started (by kernel_rfl) Tryd.func3
    (ChangeSpec.witness_shaped (enc := enc) (C := Tryd.checked) (os := os) (X := fun w _ => laidMetH Tryd.prog laidL w) false (World.laidAll Tryd.prog os laidL) #[.slice none 0 0, .int .i64 0, .int .i64 0, .bool false] 8 (World.laidAll_os _ _ _)
      (World.shaped_of_ZipB (AppSale_zip os) (AppSale_rest os)) (AppSale_ok os) (AppSale_pre os H enc) (AppSale_size os H enc) (wit_laid os _)) ?_
  intro W base args ds gs before hval0 hW hL hsh
  have hval : ∀ (j : Nat) t v, Tryd.f3.params[j]? = some t → args[j]? = some v → Value.okWide Tryd.prog W .any base t v := hval0
  have hW' := hW
  obtain ⟨p, q, hA0, hV, rfl, hfz, hnd⟩ := hW
  have hA : DataW.TrodAll enc Tryd.prog W 0 (fun _ => true) true Tryd.f3.params.toList args.toList ds p := hA0
  rw [Tryd.params3] at hA hval
  obtain ⟨v0, v1, v2, v3, d0, d1, d2, d3, p0, p1, p2, p3, rfl, rfl, rfl, h0, h1, h2, h3⟩ := trodAll_four hA
  obtain ⟨rfl, rfl⟩ := trodVars_none hV
  obtain ⟨A0, n0, c0, rfl, x0, hx0, ho0, hc0, hm0⟩ := arg_slice Tryd.underlying22 (op22 W) (hval 0 _ _ rfl rfl) h0
  obtain ⟨n1, rfl, hn1⟩ := arg_int (k := .i64) (by kernel_rfl) (hval 1 _ _ rfl rfl) h1
  obtain ⟨n2, rfl, hn2⟩ := arg_int (k := .i64) (by kernel_rfl) (hval 2 _ _ rfl rfl) h2
  obtain ⟨b3, rfl⟩ := arg_bool (by kernel_rfl) (hval 3 _ _ rfl rfl)
  refine (sale_any A0 n0 c0 x0 n1 n2 b3 W (libIs_of hL hsh) hx0 (fun x hx => ⟨(FitI.i64 (ho0 x hx)).1, (FitI.i64 (ho0 x hx)).2⟩) (Nat.le_trans hc0 hm0) (FitI.i64 hn1).1 (FitI.i64 hn1).2 (FitI.i64 hn2).1 (FitI.i64 hn2).2).mono fun e W' ⟨he, hb⟩ => ?_
  subst he
  exact ⟨_, rfl, law_post laidK (by kernel_rfl) (by kernel_rfl) (tb := 4) (by kernel_rfl) hW' rfl rfl hb⟩

theorem AppSale_named : Tryd.pinned.checked.prog.funcNamed Rows.appSaleRow.func = some 3 := by kernel_rfl
theorem AppSale_closed : joinedFacts Tryd.pinned.checked.prog 3 Tryd.f3 Rows.appSaleSpec Rows.appSaleRow = true := by kernel_rfl
theorem AppSale_instance : Tryd.f3.isInstance Tryd.pinned.checked.prog Rows.appSaleRow.origin Rows.appSaleRow.targs := of_decide_eq_true (by kernel_rfl)
theorem AppSale_wrapper : Tryd.f3.isWrapper Tryd.pinned.checked.prog Rows.appSaleRow.wrapper Rows.appSaleRow.mainSum := by unfold Func.isWrapper; rw [if_neg (by decide +kernel)]; exact ⟨rfl, rfl⟩

/-- The row's statement. -/
theorem AppSale_row : Rows.AppSaleSaid :=
  OpenClaim.holds_of_wide 3 Tryd.f3 rfl rfl rfl rfl rfl rfl rfl ⟨rfl, rfl, rfl, rfl, rfl⟩ rfl rfl rfl rfl rfl AppSale_named Tryd.func3 AppSale_closed AppSale_instance AppSale_wrapper
    (fun os started H enc _ => AppSale_lifted os started H enc)
/-- The statement: the tied card. -/
theorem AppSale_holds : Rows.AppSaleCardSaid :=
  Claim7.holds_tied_plain_at .later [] [.data, .data, .data, .data, .pinned] true (true, "ba64c6d4d5cf4b72b872a512fa665cfe33afe478ccb54c29b17ae3c06dcb5912") false AppSale_row (fun _ h => by cases h) (by kernel_rfl) (fun _ h => by cases h) appSale_row_tie rfl ⟨rfl, rfl⟩ (by kernel_rfl) rfl
    (fun f fn hf hfn => by
      obtain rfl : f = 3 := (Option.some.inj (AppSale_named.symm.trans hf)).symm
      obtain rfl : fn = Tryd.f3 := (Option.some.inj (Tryd.func3.symm.trans hfn)).symm
      exact ⟨by kernel_rfl, fun j t ht => by
        rw [Tryd.params3] at ht
        have hm : t ∈ [22, 3, 3, 4] := by simpa using Array.mem_of_getElem? ht
        have hall : ([22, 3, 3, 4].all fun u => !Tryd.prog.wantsStandIn u) = true := by kernel_rfl
        exact (show Tryd.prog.wantsStandIn t = false by simpa using List.all_eq_true.1 hall t hm)⟩)
    (by kernel_rfl)
end Go.Proofs.YtgeimnknmljplaaDoor
