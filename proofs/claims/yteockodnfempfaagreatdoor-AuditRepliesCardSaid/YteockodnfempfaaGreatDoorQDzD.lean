/- The statement AuditReplies and its tied card: it returns true at every input, and its arguments read as before. Conditions: none. -/
import Derived.Test.YteockodnfempfaaGreatDoorP2
import Derived.Test.YteockodnfempfaaGreatDoorP17
import Derived.Test.YteockodnfempfaaGreatDoorP11
import Derived.Test.YteockodnfempfaaGreatDoorCards
/- The statement AuditReplies and its tied card: it returns true at every input, and its arguments read as before. Conditions: none. -/
namespace Go.Proofs.YteockodnfempfaaGreatDoor
open Go Go.RowKit Go.Gv Go.ChangeShapes Go.WideShapes Go.ChangeAt

theorem AuditReplies_zip (os : Os) : (((World.laidAll Tryz.prog os laidL).forCall (fun _ _ => 0) ⟨#[], #[.slice none 0 0, .slice none 0 0, .slice none 0 0, .bool false], []⟩)).variablesZipB Tryz.prog = true := by kernel_rfl
theorem AuditReplies_rest (os : Os) : ((((World.laidAll Tryz.prog os laidL).forCall (fun _ _ => 0) ⟨#[], #[.slice none 0 0, .slice none 0 0, .slice none 0 0, .bool false], []⟩)).heap.toList.drop Tryz.prog.globals.size).take ((begin Tryz.prog (fun _ _ => 0) default).world.heap.size - Tryz.prog.globals.size) = (begin Tryz.prog (fun _ _ => 0) default).world.heap.toList.drop Tryz.prog.globals.size := by kernel_rfl
theorem AuditReplies_ok (os : Os) : Input.okWideB Tryz.checked.prog (((World.laidAll Tryz.prog os laidL).forCall (fun _ _ => 0) ⟨#[], #[.slice none 0 0, .slice none 0 0, .slice none 0 0, .bool false], []⟩)) 4 ⟨#[], #[.slice none 0 0, .slice none 0 0, .slice none 0 0, .bool false], []⟩ = true := by kernel_rfl
theorem AuditReplies_pre (os : Os) (H : Type) (enc : TypeId × Value → H) : Rows.auditRepliesSpec.preB enc Tryz.checked.prog Tryz.f4 Rows.auditRepliesRow.domain false (((World.laidAll Tryz.prog os laidL).forCall (fun _ _ => 0) ⟨#[], #[.slice none 0 0, .slice none 0 0, .slice none 0 0, .bool false], []⟩)).memory #[.slice none 0 0, .slice none 0 0, .slice none 0 0, .bool false] 8 = true := by kernel_rfl
theorem AuditReplies_size (os : Os) (H : Type) (enc : TypeId × Value → H) : Rows.auditRepliesSpec.sizedB enc Tryz.checked.prog Tryz.f4 false (((World.laidAll Tryz.prog os laidL).forCall (fun _ _ => 0) ⟨#[], #[.slice none 0 0, .slice none 0 0, .slice none 0 0, .bool false], []⟩)).memory #[.slice none 0 0, .slice none 0 0, .slice none 0 0, .bool false] 8 = true := by kernel_rfl

set_option maxRecDepth 100000 in
theorem AuditReplies_lifted (os : Os) (started : os.Started) (H : Type) (enc : TypeId × Value → H) :
    ReturnsInHanded {} Tryz.checked os 4 .any (fun w args => (Rows.auditRepliesSpec.pre enc Tryz.prog Tryz.f4 Rows.auditRepliesRow.domain false w args ∧ laidMetH Tryz.prog Rows.auditRepliesRow.laid w) ∧ sizedMet enc Tryz.prog Tryz.f4 (OpenSpec.ofChange Rows.auditRepliesSpec) false w args)
      (Rows.auditRepliesSpec.post enc Tryz.prog Tryz.f4 false true false false) := by
  refine returns_laid (C := Tryz.checked) (laid := laidL) ownK started (by kernel_rfl) Tryz.func4
    (ChangeSpec.witness_shaped (enc := enc) (C := Tryz.checked) (os := os) (X := fun w _ => laidMetH Tryz.prog laidL w) false (World.laidAll Tryz.prog os laidL) #[.slice none 0 0, .slice none 0 0, .slice none 0 0, .bool false] 8 (World.laidAll_os _ _ _)
      (World.shaped_of_ZipB (AuditReplies_zip os) (AuditReplies_rest os)) (AuditReplies_ok os) (AuditReplies_pre os H enc) (AuditReplies_size os H enc) (wit_laid os _)) ?_
  intro W base args ds gs before hval0 hW hL hsh
  have hval : ∀ (j : Nat) t v, Tryz.f4.params[j]? = some t → args[j]? = some v → Value.okWide Tryz.prog W .any base t v := hval0
  have hW' := hW
  obtain ⟨p, q, hA0, hV, rfl, hfz, hnd⟩ := hW
  have hA : DataW.TrodAll enc Tryz.prog W 0 (fun _ => true) true Tryz.f4.params.toList args.toList ds p := hA0
  rw [Tryz.params4] at hA hval
  obtain ⟨v0, v1, v2, v3, d0, d1, d2, d3, p0, p1, p2, p3, rfl, rfl, rfl, h0, h1, h2, h3⟩ := trodAll_four hA
  obtain ⟨rfl, rfl⟩ := trodVars_none hV
  obtain ⟨A0, n0, c0, rfl, x0, hx0, ho0, hc0, hm0⟩ := arg_slice Tryz.underlying42 (op42 W) (hval 0 _ _ rfl rfl) h0
  obtain ⟨A1, n1, c1, rfl, x1, hx1, ho1, hc1, hm1⟩ := arg_slice Tryz.underlying43 (op43 W) (hval 1 _ _ rfl rfl) h1
  obtain ⟨A2, n2, c2, rfl, x2, hx2, ho2, hc2, hm2⟩ := arg_slice Tryz.underlying44 (op44 W) (hval 2 _ _ rfl rfl) h2
  obtain ⟨b3, rfl⟩ := arg_bool (by kernel_rfl) (hval 3 _ _ rfl rfl)
  refine (areplies_any A0 A1 A2 n0 c0 n1 c1 n2 c2 x0 x1 x2 b3 W (libIs_of hL hsh) hx0 (fun x hx => ⟨FitI.i64 (ho0 x hx).1.1, FitI.i64 (ho0 x hx).1.2, FitI.u64 (ho0 x hx).2.2⟩) (Nat.le_trans hc0 hm0) hx1 (fun h hh => by obtain ⟨ys, k1, _, k3, k4⟩ := ho1 h hh; exact ⟨ys, k1, k3, k4⟩) (Nat.le_trans hc1 hm1) hx2 hc2 hm2).mono fun e W' ⟨he, hb⟩ => ?_
  subst he
  exact ⟨_, rfl, law_post laidK (by kernel_rfl) (by kernel_rfl) (tb := 4) (by kernel_rfl) hW' rfl rfl hb⟩

theorem AuditReplies_named : Tryz.pinned.checked.prog.funcNamed Rows.auditRepliesRow.func = some 4 := by kernel_rfl
theorem AuditReplies_closed : joinedFacts Tryz.pinned.checked.prog 4 Tryz.f4 Rows.auditRepliesSpec Rows.auditRepliesRow = true := by kernel_rfl
theorem AuditReplies_instance : Tryz.f4.isInstance Tryz.pinned.checked.prog Rows.auditRepliesRow.origin Rows.auditRepliesRow.targs := of_decide_eq_true (by kernel_rfl)
theorem AuditReplies_wrapper : Tryz.f4.isWrapper Tryz.pinned.checked.prog Rows.auditRepliesRow.wrapper Rows.auditRepliesRow.mainSum := by unfold Func.isWrapper; rw [if_neg (by decide +kernel)]; exact ⟨rfl, rfl⟩

/-- The row's statement. -/
theorem AuditReplies_row : Rows.AuditRepliesSaid :=
  OpenClaim.holds_of_wide 4 Tryz.f4 rfl rfl rfl rfl rfl rfl rfl ⟨rfl, rfl, rfl, rfl, rfl⟩ rfl rfl rfl rfl rfl AuditReplies_named Tryz.func4 AuditReplies_closed AuditReplies_instance AuditReplies_wrapper
    (fun os started H enc _ => AuditReplies_lifted os started H enc)
/-- The statement: the tied card. -/
theorem AuditReplies_holds : Rows.AuditRepliesCardSaid :=
  Claim7.holds_tied_plain_at .later [] [.data, .data, .data, .data, .pinned] true (true, "5bb5e46bce99e867be3fbdfe9e799ea9a596899ca75d40b2bc330795629eb174") true AuditReplies_row (fun _ h => by cases h) (by kernel_rfl) (fun _ h => by cases h) auditReplies_row_tie rfl ⟨rfl, rfl⟩ (by kernel_rfl) rfl
    (fun f fn hf hfn => by
      obtain rfl : f = 4 := (Option.some.inj (AuditReplies_named.symm.trans hf)).symm
      obtain rfl : fn = Tryz.f4 := (Option.some.inj (Tryz.func4.symm.trans hfn)).symm
      exact ⟨by kernel_rfl, fun j t ht => by
        rw [Tryz.params4] at ht
        have hm : t ∈ [42, 43, 44, 4] := by simpa using Array.mem_of_getElem? ht
        have hall : ([42, 43, 44, 4].all fun u => !Tryz.prog.wantsStandIn u) = true := by kernel_rfl
        exact (show Tryz.prog.wantsStandIn t = false by simpa using List.all_eq_true.1 hall t hm)⟩)
    (by kernel_rfl)
end Go.Proofs.YteockodnfempfaaGreatDoor
