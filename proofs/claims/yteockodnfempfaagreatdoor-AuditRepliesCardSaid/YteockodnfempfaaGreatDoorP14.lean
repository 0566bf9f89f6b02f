/- What Settle of the document's house computes: which auctions are due. Conditions: those named in each theorem. -/
import Derived.Test.YteockodnfempfaaGreatDoorP13
import Derived.ArgAppend
import Derived.Deep.CutBlock
import Derived.Test.YteockodnfempfaaGreatDoorP9
import Derived.Test.YteockodnfempfaaGreatDoorP7
/- A list with one more in its midst: appending to a full list. Conditions: those named in each theorem. -/
namespace Go.Gv
open Go Go.RowKit
section
variable {α : Type} [Enc α] {w : World} {P : Program}
theorem gAppend_full {B B2 : Nat} {e t : TypeId} {xs ys : List α} {by8 : Nat} (E : ElemI P t e α by8) {A : Option Addr} {k : Nat} (hxs : Sl α w B A k xs) {ad : Addr} {m c : Nat} (hys : Sl α w B2 (some ad) m ys) (hm : 0 < m) (h63 : k + m ≤ maxLen) (hbytes : (k + m) * by8 ≤ 140737488355328) (ty : TypeId) :
    ∃ v' w', (gAppend #[t, t] ty #[.slice A k k, .slice (some ad) m c]).run P w = .ok v' w' ∧ OwnS w' w.heap.size e v' (xs ++ ys) ∧ w.grownBy w' none := by
  have hk := hxs.1
  have hml := hys.1
  cases A with
  | none =>
    have hk0 : k = 0 := by
      rcases Nat.eq_zero_or_pos k with h0 | h0
      · exact h0
      · obtain ⟨ad, h, _⟩ := hxs.2 h0; cases h
    subst hk0
    have : xs = [] := List.eq_nil_of_length_eq_zero hk
    subst this
    obtain ⟨v', w', h1, h2, h3, _⟩ := gAppend_S (P := P) E (OwnS.nil w w.heap.size e) hys (by simp only [List.length_nil]; exact h63) (by simp only [List.length_nil]; exact hbytes) (Nat.le_refl _) ty (c := c)
    exact ⟨v', w', h1, h2, h3⟩
  | some b =>
    obtain ⟨i, hi, hx⟩ := Option.map_eq_some_iff.1 E.ex
    simp only [Prod.mk.injEq, Option.map_eq_some_iff] at hx
    obtain ⟨h1, h2, z, h3, h4⟩ := hx
    have holds : ∀ j u, (xs.flatMap Enc.enc)[j]? = some u → w.cell? (b.add j) = some u := by
      intro j u hu
      rcases Nat.eq_zero_or_pos k with h0 | h0
      · subst h0
        have : xs = [] := List.eq_nil_of_length_eq_zero hk
        subst this; simp at hu
      · obtain ⟨ad', h, hc⟩ := hxs.flat h0
        injection h with h; subst h
        exact hc j u hu
    have hnews : ∀ j u, (ys.flatMap Enc.enc)[j]? = some u → w.cell? (ad.add j) = some u := by
      intro j u hu
      obtain ⟨ad', h, hc⟩ := hys.flat hm
      injection h with h; subst h
      exact hc j u hu
    obtain ⟨v', w', hrun, g1, g2⟩ := run_append_arg_grows (P := P) w t ty e i z (Enc.n α) by8 E.ht hi h3 h1 h2 h4 Enc.pos b k k (xs.flatMap Enc.enc) (by rw [flat_len, hk]) holds ad m c (ys.flatMap Enc.enc) (by rw [flat_len, hml]) hnews (by omega) h63 hbytes
    refine ⟨v', w', by unfold gAppend; exact hrun, ?_, g2⟩
    unfold OwnS
    rw [List.flatMap_append, List.length_append, hk, hml]
    exact g1
theorem gAppend_zero {e t : TypeId} {by8 : Nat} (E : ElemI P t e α by8) (A A2 : Option Addr) {k c c2 : Nat} (hkc : k ≤ c) (ty : TypeId) : (gAppend #[t, t] ty #[.slice A k c, .slice A2 0 c2]).run P w = .ok (.slice A k c) w := by
  obtain ⟨i, hi, hx⟩ := Option.map_eq_some_iff.1 E.ex
  unfold gAppend
  cases A <;> cases A2 <;> simp [Builtin.append_, run_underlying E.ht, sizeOf, typeInfo, hi, Builtin.lenOf, Builtin.firstCells, hkc, storeCells, loadCells, loadCellsFrom]
/-- Appending to a full list: the old one stays as it is. -/
theorem gAppend_cut {e t : TypeId} {xs ys : List α} {by8 : Nat} (E : ElemI P t e α by8) {A A2 : Option Addr} {k m c2 : Nat} (hxs : Sl α w w.heap.size A k xs) (hys : Sl α w w.heap.size A2 m ys) (h63 : k + m ≤ maxLen) (hbytes : (k + m) * by8 ≤ 140737488355328) (ty : TypeId) :
    ∃ A' c' w', (gAppend #[t, t] ty #[.slice A k k, .slice A2 m c2]).run P w = .ok (.slice A' (k + m) c') w' ∧ Sl α w' w'.heap.size A' (k + m) (xs ++ ys) ∧ Below w.heap.size w w' ∧ k + m ≤ c' ∧ c' ≤ maxLen := by
  rcases Nat.eq_zero_or_pos m with h0 | h0
  · subst h0
    have : ys = [] := List.eq_nil_of_length_eq_zero hys.1
    subst this
    exact ⟨A, k, w, gAppend_zero E A A2 (Nat.le_refl _) ty, by simpa using hxs, Below.refl _ _, Nat.le_refl _, by omega⟩
  · obtain ⟨ad, e2, _⟩ := hys.2 h0
    subst e2
    obtain ⟨v', w', h1, h2, h3⟩ := gAppend_full E hxs hys h0 h63 hbytes ty (c := c2)
    obtain ⟨A', c', rfl, h4, h5, h6, _⟩ := OwnS.shape h2
    have hl : (xs ++ ys).length = k + m := by rw [List.length_append, hxs.1, hys.1]
    rw [hl] at h1 h4 h5
    exact ⟨A', c', w', h1, h4, ⟨h3.os, h3.tape, h3.output, h3.size, fun k hk => h3.block k hk (by simp)⟩, h5, h6⟩
end
end Go.Gv
/- What Open of the document's house computes. Conditions: those named in each theorem. -/
namespace Go.Proofs.YteockodnfempfaaGreatDoor
open Go Go.RowKit Go.Gv Go.Sort

/-- What a call of the document's house leaves. -/
def RLeft (w : World) (g : Nat) (H' : MHouse) (w' : World) : Prop := ∃ R', Twin H' R' ∧ RHouseIs w' g R' ∧ Chg (fun q => q = g) w w'
theorem RLeft.same {w w' : World} {g : Nat} {H : MHouse} {R : List MSale} (hT : Twin H R) (hR : RHouseIs w g R) (hb : Bel w w') : RLeft w g H w' := ⟨R, hT, hR.bel hb, Chg.of_bel hb _⟩
theorem ropen_no {w w' : World} {g : Nat} {H : MHouse} {R : List MSale} {name : ByteArray} {v : Bool} {reserve close now c : Int} (hT : Twin H R) (hR : RHouseIs w g R) (hb : Bel w w') (hc : openR H name reserve close now = c) (h0 : c ≠ 0) :
    Ending.returned (.int .i64 c) = Ending.returned (.int .i64 (openR H name reserve close now)) ∧ RLeft w g (openH H name v reserve close now) w' := by
  subst hc
  refine ⟨rfl, ?_⟩
  unfold openH
  rw [if_neg h0]
  exact RLeft.same hT hR hb
theorem bl_iff (a b : ByteArray) : Op.bytesLess a.toList b.toList = true ↔ a.toList < b.toList := by rw [bytesLess_eq, decide_eq_true_eq]
theorem R2.take {α β : Type} {S : α → β → Prop} : ∀ {l : List α} {m : List β}, R2 S l m → ∀ k, R2 S (l.take k) (m.take k)
  | [], [], _, k => by simp [R2]
  | a :: l, b :: m, h, 0 => by simp [R2]
  | a :: l, b :: m, h, k + 1 => ⟨h.1, R2.take h.2 k⟩
  | [], _ :: _, h, _ => h.elim
  | _ :: _, [], h, _ => h.elim
theorem R2.drop {α β : Type} {S : α → β → Prop} : ∀ {l : List α} {m : List β}, R2 S l m → ∀ k, R2 S (l.drop k) (m.drop k)
  | [], [], _, k => by simp [R2]
  | a :: l, b :: m, h, 0 => h
  | a :: l, b :: m, h, k + 1 => R2.drop h.2 k
  | [], _ :: _, h, _ => h.elim
  | _ :: _, [], h, _ => h.elim
theorem gtS_iff (a b : ByteArray) : (!Op.bytesLess a.toList b.toList && !(a.toList == b.toList)) = true ↔ b.toList < a.toList := by
  rw [bytesLess_eq]
  constructor
  · intro h
    simp only [Bool.and_eq_true, Bool.not_eq_true', decide_eq_false_iff_not, beq_eq_false_iff_ne, ne_eq] at h
    rcases name_tri a b with h1 | h1 | h1
    · exact absurd h1 h.1
    · exact absurd (by rw [h1]) h.2
    · exact h1
  · intro h
    simp only [Bool.and_eq_true, Bool.not_eq_true', decide_eq_false_iff_not, beq_eq_false_iff_ne, ne_eq]
    exact ⟨fun h1 => absurd (List.lt_trans h h1) (List.lt_irrefl _), fun e => by rw [e] at h; exact absurd h (List.lt_irrefl _)⟩
/-- Whether the search for a place goes on. -/
def OpenGo (R : List MSale) (name : ByteArray) (k : Nat) (b : Bool) : Prop := (b = false → (k = 0 ∨ ∃ s, R[k - 1]? = some s ∧ ¬ name.toList < s.name.toList)) ∧ (b = true → 0 < k ∧ ∀ (j : Nat) (s : MSale), k - 1 ≤ j → R[j]? = some s → name.toList < s.name.toList)
set_option maxRecDepth 100000 in
set_option maxHeartbeats 4000000 in
theorem ropen_any (g : Nat) (H : MHouse) (R : List MSale) (name : ByteArray) (v : Bool) (reserve close now : Int) (w : World) (hR : RHouseIs w g R) (hT : Twin H R) (hn : name.size ≤ maxLen) (hl : R.length ≤ 1000000) :
    Calls Tryz.prog 52 #[.pointer (some ⟨g, 0, none⟩), .string name, .bool v, .int .i64 reserve, .int .u64 close, .int .u64 now] w fun e w' => e = .returned (.int .i64 (openR H name reserve close now)) ∧ RLeft w g (openH H name v reserve close now) w' := by
  have HR := Lib.hid hR; have HT := Lib.hid hT
  have HF := Lib.hid (rfind_any g R name w hR hl)
  obtain ⟨hd, ss, hc, hdl, hfree, hs, hdc, hdm, hr⟩ := hR.cell
  obtain ⟨n, hnl⟩ : ∃ n, R.length = n := ⟨_, rfl⟩
  have hhl : H.length = n := by rw [← hT.len, hnl]
  rw [hnl] at hc hs hl hdl hdc
  have HHD := Lib.hid (And.intro hdl (And.intro hdc hdm))
  have HS := Lib.hid hs; have HRR := Lib.hid hr; have HNL := Lib.hid hnl; have HHL := Lib.hid hhl; have HC := Lib.hid hc; have HFR := Lib.hid hfree
  clear hR hT hs hr hnl hhl hfree hdl hdc hdm
  obtain ⟨nb, hnb⟩ : ∃ nb, nameB name = nb := ⟨_, rfl⟩
  have HNB := Lib.hid hnb; clear hnb
  by_cases hbad : badOpen name reserve = true
  · have HO := Lib.hid (show openR H name reserve close now = 1 by unfold openR; rw [if_pos hbad])
    have hb2 : (!nb || (decide (reserve < 0) || decide (1099511627776 < reserve))) = true := by rw [← HNB.out]; exact hbad
    clear hbad
    cases nb
    · clear hb2
      go_enter Tryz.func52, Tryz.ntmps52
      go_wp2_with fail
      refine (letters_is false name _ HNB.out hn).mono ?_
      rintro _ w1 ⟨rfl, rfl⟩
      go_wp2_with fail
      go_ret
      exact ropen_no HT.out HR.out (Bel.refl _) HO.out (by decide)
    · by_cases h1 : reserve < 0
      · clear hb2
        go_enter Tryz.func52, Tryz.ntmps52
        go_wp2_with fail
        refine (letters_is true name _ HNB.out hn).mono ?_
        rintro _ w1 ⟨rfl, rfl⟩
        go_wp2_with fail
        go_ret
        exact ropen_no HT.out HR.out (Bel.refl _) HO.out (by decide)
      · have h2 : 1099511627776 < reserve := by simpa [h1] using hb2
        clear hb2
        go_enter Tryz.func52, Tryz.ntmps52
        go_wp2_with fail
        refine (letters_is true name _ HNB.out hn).mono ?_
        rintro _ w1 ⟨rfl, rfl⟩
        go_wp2_with fail
        go_ret
        exact ropen_no HT.out HR.out (Bel.refl _) HO.out (by decide)
  · have hb2 : nb = true ∧ ¬ reserve < 0 ∧ ¬ 1099511627776 < reserve := by
      have : badOpen name reserve = false := by simpa using hbad
      unfold badOpen at this
      rw [HNB.out] at this
      simpa [and_assoc] using this
    obtain ⟨rfl, h1, h2⟩ := hb2
    have HBD := Lib.hid hbad; clear hbad
    go_enter Tryz.func52, Tryz.ntmps52
    go_wp2_with fail
    refine (letters_is true name _ HNB.out hn).mono ?_
    rintro _ w1 ⟨rfl, h5⟩
    obtain rfl : w = w1 := h5.symm
    go_wp2_with fail
    refine HF.out.mono ?_
    rintro _ w1 ⟨i, rfl, hf, h5⟩
    obtain rfl : w = w1 := h5.symm
    rcases HT.out.found hf with ⟨hi, hnone⟩ | ⟨j, s, hi, hj, hjn, hsome⟩
    · subst hi
      have HN0 := Lib.hid hnone
      clear hf
      by_cases h4 : close ≤ now
      · have HO := Lib.hid (show openR H name reserve close now = 4 by unfold openR; rw [if_neg HBD.out, if_neg (by rw [HN0.out]; decide), if_pos h4])
        clear hnone
        go_wp2_with fail
        go_ret
        exact ropen_no HT.out HR.out (Bel.refl _) HO.out (by decide)
      · by_cases h64 : 64 ≤ n
        · have HO := Lib.hid (show openR H name reserve close now = 7 by unfold openR; rw [if_neg HBD.out, if_neg (by rw [HN0.out]; decide), if_neg h4, if_pos (by rw [HHL.out]; exact h64)])
          have h64' : (64 : Int) ≤ (n : Int) := by omega
          clear hnone
          go_wp2_with fail
          go_ret
          exact ropen_no HT.out HR.out (Bel.refl _) HO.out (by decide)
        · have HO := Lib.hid (show openR H name reserve close now = 0 by unfold openR; rw [if_neg HBD.out, if_neg (by rw [HN0.out]; decide), if_neg h4, if_neg (by rw [HHL.out]; exact h64)])
          have h64' : ¬ (64 : Int) ≤ (n : Int) := by omega
          clear hnone
          go_wp2_with fail
          go_wp2_with fail
          go_loopw [13] (fun vk wr => ∃ k : Nat, k ≤ n ∧ vk = .int .i64 k ∧ wr = w ∧ Hid (∀ (j : Nat) (s : MSale), k ≤ j → R[j]? = some s → name.toList < s.name.toList)) (fun vk _ => (intOf vk).toNat)
          case atStart => exact ⟨n, Nat.le_refl _, rfl, rfl, (fun j s hj hs => by have := (List.getElem?_eq_some_iff.1 hs).1; have := HNL.out; omega : ∀ (j : Nat) (s : MSale), n ≤ j → R[j]? = some s → name.toList < s.name.toList)⟩
          case round =>
            obtain ⟨k, hk, rfl, rfl, hup⟩ := hrel
            have hstop : (k = 0 ∨ ∃ s, R[k - 1]? = some s ∧ ¬ name.toList < s.name.toList) → Hid (Twin (openH H name v reserve close now) (R.take k ++ newSale name v reserve close :: R.drop k)) := fun h => by
              have hT := HT.out.ins (x := newSale name v reserve close) HN0.out (i := k) (by rw [HNL.out]; exact hk) h hup
              unfold openH
              rw [if_pos HO.out]
              exact hT
            have HST := Lib.hid hstop
            clear hstop
            go_upto_region 10 with fail
            go_cut [61] (fun v0 wx => ∃ b : Bool, v0 = .bool b ∧ wx = wr ∧ Hid (OpenGo R name k b))
            case first => as_aux_lemma =>
              rcases Nat.eq_zero_or_pos k with h0 | h0
              · subst h0
                clear hup HST
                go_wp2_with fail
                go_meet
                exact ⟨false, rfl, by first | rfl | trivial, (⟨fun _ => .inl rfl, fun h => by cases h⟩ : OpenGo R name 0 false)⟩
              · obtain ⟨k, rfl⟩ : ∃ k', k = k' + 1 := ⟨k - 1, by omega⟩
                obtain ⟨ad, s, hA, _, hsk, hg⟩ := HS.out.at_ (k := k) (by omega)
                obtain ⟨x, hx, hsx⟩ := HRR.out.at_ hsk
                change get? GRef15Sale wr (ad.add (k * 9)) = some s at hg
                have f1 := GRef15Sale.at_name hg
                have hnm : s.name = x.name := by obtain ⟨_, rfl, _⟩ := hsx; rfl
                rw [Addr.add_zero', hnm] at f1
                obtain ⟨k1, hk1⟩ : ∃ k1, k + 1 = k1 := ⟨_, rfl⟩
                have HX := Lib.hid hx
                clear hsk hsx hg hx hnm
                obtain ⟨r, hr⟩ : ∃ r, (!Op.bytesLess x.name.toList name.toList && !(x.name.toList == name.toList)) = r := ⟨_, rfl⟩
                have HBR := Lib.hid hr
                rw [hk1] at hk HST h0 hup ⊢
                have e1 : IntKind.i64.wrap ((k1 : Int) - 1) = (k : Int) := by rw [IntWalk.i64_in _ (by omega)]; omega
                have p1 : (0 : Int) ≤ (k : Int) := by omega
                have p2 : (k : Int) < (n : Int) := by omega
                have p3 : (0 : Int) < (k1 : Int) := by omega
                have HUP := Lib.hid hup
                have HK1 := Lib.hid hk1
                clear hup HST hk1
                go_wp2_with fail
                have hk1 := HK1.out
                subst hk1
                go_meet
                refine ⟨r, rfl, by first | rfl | trivial, (show OpenGo R name (k + 1) r from ⟨fun e => .inr ⟨x, by rw [Nat.add_sub_cancel]; exact HX.out, fun h => absurd ((gtS_iff _ _).2 h) (by rw [HBR.out.trans e]; decide)⟩, fun e => ⟨h0, ?_⟩⟩)⟩
                intro j s hj hs
                by_cases e2 : j = k
                · subst e2; rw [HX.out] at hs; injection hs with hs; subst hs
                  exact (gtS_iff _ _).1 (HBR.out.trans e)
                · exact HUP.out.out j s (by omega) hs
            case rest =>
              obtain ⟨b, rfl, rfl, hb⟩ := hcut
              obtain ⟨wr, rfl⟩ : ∃ w', w' = wc := ⟨_, rfl⟩
              have HB0 := Lib.hid hb.out
              clear hb
              cases b
              · have HT2 := Lib.hid (HST.out (HB0.out.1 rfl)).out
                clear HST HB0 hup
                have hfr := HFR.out
                have hcc := HC.out
                have hk0 : (0 : Int) ≤ (k : Int) := by omega
                have hkn : (k : Int) ≤ (n : Int) := by omega
                obtain ⟨A0, c0, hdA, hk7, h8⟩ : ∃ (A0 : Option Addr) (c0 : Nat), hd = ⟨A0, n, c0⟩ ∧ n ≤ c0 ∧ c0 ≤ maxLen := by
                  have h9 := HHD.out
                  obtain ⟨a, l, c⟩ := hd
                  simp only at h9
                  obtain ⟨rfl, h10, h11⟩ := h9
                  exact ⟨a, c, rfl, h10, h11⟩
                subst hdA
                simp only at hcc
                have hsl := HS.out
                simp only at hsl
                have hss : ss.length = n := hsl.1
                have HSL := Lib.hid hsl
                have hkc0 : k ≤ c0 := by omega
                obtain ⟨A2, hA2, hA3, hdrop⟩ : ∃ A2 : Option Addr, (∀ ad, A0 = some ad → (if c0 = k then some ad else some (ad.add (k * 9))) = A2) ∧ (A0 = none → A2 = none) ∧ Sl GRef15Sale wr wr.heap.size A2 (n - k) (ss.drop k) := by
                  rcases Nat.lt_or_ge k n with h | h
                  · obtain ⟨ad, e, h9⟩ := hsl.drop h
                    subst e
                    exact ⟨_, fun ad' e => (by injection e with e; subst e; rw [if_neg (by omega)]; rfl), fun e => (by cases e), h9⟩
                  · have hn : Sl GRef15Sale wr wr.heap.size (match A0 with | none => none | some ad => if c0 = k then some ad else some (ad.add (k * 9))) (n - k) (ss.drop k) := by
                      rw [List.drop_of_length_le (by omega)]
                      exact ⟨by simp; omega, fun h9 => by omega⟩
                    exact ⟨_, fun ad e => (by subst e; rfl), fun e => (by subst e; rfl), hn⟩
                have hpre := hsl.take (k := k) hk
                go_wp2_with fail
                refine wp_region_G GB [24] GB.rf (by kernel_rfl) ?_
                refine wpG_looks 6 25 [0,1,2,3,4,5,6,7,8,9,10,11,12,14,15,16,17,18,19] rfl GB.rf GB.tr (by kernel_rfl) (fun _ _ _ _ hd h => And.intro (hd ▸ And.left h) (And.right h)) rfl (by kernel_rfl) ?_
                intro ι W hne CW
                have g1 : ∀ z, (W z).cell? ⟨g, 0, none⟩ = some (.slice A0 n c0) := fun z => (CW.out z).cell hcc
                cases A0 with
                | none =>
                  have hA4 := hA3 rfl
                  subst hA4
                  have hn0 : n = 0 := by
                    rcases Nat.eq_zero_or_pos n with h | h
                    · exact h
                    · obtain ⟨ad, e, _⟩ := hsl.2 h; cases e
                  have hk00 : k = 0 := by omega
                  subst hn0; subst hk00
                  repeat (refine wpLooksG_step (fun K hK => ?_); go_simp; refine hK _ ?_; clear hK K)
                  refine wpLooksG_nil ?_
                  clear g1 CW hne W ι
                  have hdrop' : Sl GRef15Sale wr wr.heap.size none 0 (ss.drop 0) := hdrop
                  have hpre' : Sl GRef15Sale wr wr.heap.size none 0 (ss.take 0) := hpre
                  refine wpG_force 13 _ rfl (by kernel_rfl) rfl fun wa hwa K hK => ?_
                  go_simp
                  refine hK _ _ (fun _ => GB.al _ _) ?_
                  clear hK K
                  have hb1 : Bel wr (wa.alloc (.cells (GRef15Sale.enc ⟨name, v, reserve, close, default, false, default⟩).toArray 137)) := hwa.undrew.alloc _
                  have hnew : Sl GRef15Sale (wa.alloc (.cells (GRef15Sale.enc ⟨name, v, reserve, close, default, false, default⟩).toArray 137)) (wa.alloc (.cells (GRef15Sale.enc ⟨name, v, reserve, close, default, false, default⟩).toArray 137)).heap.size (some ⟨wa.heap.size, 0, none⟩) 1 [⟨name, v, reserve, close, default, false, default⟩] := Sl.new_ (by simp; rfl) rfl rfl (by simp)
                  generalize wa.alloc (.cells (GRef15Sale.enc ⟨name, v, reserve, close, default, false, default⟩).toArray 137) = wb at hb1 hnew ⊢
                  refine wpG_force 20 _ rfl (by kernel_rfl) rfl fun wc hwc K hK => ?_
                  obtain ⟨A5, c5, wd, hrun5, hsl5, hb5, _, _⟩ := gAppend_cut (P := Tryz.prog) ei82 (k := 1) (m := 0) (c2 := c0) (hnew.stepB hwc) (hdrop'.stepB (hb1.trans hwc)) (by unfold maxLen; omega) (by omega) 82
                  replace hrun5 : (gAppend #[82, 82] 82 #[.slice (some ⟨wa.heap.size, 0, none⟩) 1 1, .slice none 0 c0]).run Tryz.prog wc = .ok (.slice A5 1 c5) wd := hrun5
                  go_simp
                  refine hK _ _ (fun _ => hb5) ?_
                  clear hK K hrun5
                  have hbd : Bel wr wd := (hb1.trans hwc).trans hb5
                  refine wpG_force 21 _ rfl (by kernel_rfl) rfl fun we hwe K hK => ?_
                  obtain ⟨A6, c6, wf, hrun6, hsl6, hb6, hc6, hm6⟩ := gAppend_cut (P := Tryz.prog) ei82 (k := 0) (m := 1) (c2 := c5) (hpre'.stepB (hbd.trans hwe)) (hsl5.stepB hwe) (by unfold maxLen; omega) (by omega) 82
                  replace hrun6 : (gAppend #[82, 82] 82 #[.slice none 0 0, .slice A5 1 c5]).run Tryz.prog we = .ok (.slice A6 1 c6) wf := hrun6
                  go_simp
                  refine hK _ _ (fun _ => hb6) ?_
                  clear hK K hrun6
                  have hbf : Bel wr wf := (hbd.trans hwe).trans hb6
                  refine wpG_force 22 _ rfl (by kernel_rfl) rfl fun wh hwh K hK => ?_
                  go_simp
                  refine hK _ _ (fun _ => GB.rf _) ?_
                  clear hK K
                  refine wpG_force 23 _ rfl (by kernel_rfl) rfl fun wi hwi K hK => ?_
                  go_simp
                  refine hK _ _ (fun _ => GB.rf _) ?_
                  clear hK K
                  refine wpG_force 24 _ rfl (by kernel_rfl) rfl fun wj hwj K hK => ?_
                  have hbj : Bel wf wj := GB.tr _ _ _ (GB.tr _ _ _ hwh hwi) hwj
                  have hbj2 : Bel wr wj := hbf.trans hbj
                  have q1 := GB.cell hbj2 hcc
                  have q2 := frozen_of_free (a := ⟨g, 0, none⟩) ((blkFree_keep (Below.block hbj2 g (World.block_lt_of_cell? wr _ hcc))).trans hfr)
                  have hlay := RHouseIs.lay (hd := ⟨A6, 1, c6⟩) (HR.out.bel hbj2) (hsl6.stepB hbj) hc6 hm6 (R' := R.take 0 ++ newSale name v reserve close :: R.drop 0) (by
                    have h1 := (HRR.out.mono fun _ _ h => RSaleIs.bel hbj2 h)
                    refine R2.append (R2.append (l2 := ss.drop 0) (m2 := R.drop 0) (R2.drop h1 0) (l := [_]) (m := [_]) ⟨?_, trivial⟩) (R2.take h1 0)
                    exact ⟨default, rfl, Sl.nil, Nat.le_refl _, Nat.zero_le _⟩)
                  go_simp
                  refine hK _ _ (fun h => absurd (by simp) h) ?_
                  clear hK K
                  have hch : Chg (fun q => q = g) wr (wj.setCell ⟨g, 0, none⟩ (.slice A6 (1) c6)) := (Chg.of_bel hbj2 _).tr ⟨rfl, rfl, rfl, by simp, fun k _ hn => Below.heap_setCell _ _ _ _ hn⟩
                  have hlay2 : RHouseIs (wj.setCell ⟨g, 0, none⟩ (.slice A6 (1) c6)) g (R.take 0 ++ newSale name v reserve close :: R.drop 0) := hlay
                  generalize wj.setCell ⟨g, 0, none⟩ (.slice A6 (1) c6) = wk at hch hlay2 ⊢
                  refine wpG_end (by kernel_rfl) (fun wn hwn => ?_) _
                  have HL := Lib.hid (hlay2.bel hwn); have HCH := Lib.hid (hch.tr (Chg.of_bel hwn _))
                  clear hlay hlay2 hch hwn q1 q2 hbj hbj2 hbf hbd
                  go_wp2_with fail
                  go_ret
                  exact ⟨ret_int HO.out.symm, _, HT2.out, HL.out, HCH.out⟩
                | some ad =>
                  have hA4 := hA2 ad rfl
                  repeat (refine wpLooksG_step (fun K hK => ?_); go_simp; refine hK _ ?_; clear hK K)
                  refine wpLooksG_nil ?_
                  clear g1 CW hne W ι
                  refine wpG_force 13 _ rfl (by kernel_rfl) rfl fun wa hwa K hK => ?_
                  go_simp
                  refine hK _ _ (fun _ => GB.al _ _) ?_
                  clear hK K
                  have hb1 : Bel wr (wa.alloc (.cells (GRef15Sale.enc ⟨name, v, reserve, close, default, false, default⟩).toArray 137)) := hwa.undrew.alloc _
                  have hnew : Sl GRef15Sale (wa.alloc (.cells (GRef15Sale.enc ⟨name, v, reserve, close, default, false, default⟩).toArray 137)) (wa.alloc (.cells (GRef15Sale.enc ⟨name, v, reserve, close, default, false, default⟩).toArray 137)).heap.size (some ⟨wa.heap.size, 0, none⟩) 1 [⟨name, v, reserve, close, default, false, default⟩] := Sl.new_ (by simp; rfl) rfl rfl (by simp)
                  generalize wa.alloc (.cells (GRef15Sale.enc ⟨name, v, reserve, close, default, false, default⟩).toArray 137) = wb at hb1 hnew ⊢
                  refine wpG_force 20 _ rfl (by kernel_rfl) rfl fun wc hwc K hK => ?_
                  obtain ⟨A5, c5, wd, hrun5, hsl5, hb5, _, _⟩ := gAppend_cut (P := Tryz.prog) ei82 (c2 := c0 - k) (hnew.stepB hwc) (hdrop.stepB (hb1.trans hwc)) (by unfold maxLen at *; omega) (by omega) 82
                  go_simp
                  refine hK _ _ (fun _ => hb5) ?_
                  clear hK K hrun5
                  have hbd : Bel wr wd := (hb1.trans hwc).trans hb5
                  refine wpG_force 21 _ rfl (by kernel_rfl) rfl fun we hwe K hK => ?_
                  obtain ⟨A6, c6, wf, hrun6, hsl6, hb6, hc6, hm6⟩ := gAppend_cut (P := Tryz.prog) ei82 (c2 := c5) (hpre.stepB (hbd.trans hwe)) (hsl5.stepB hwe) (by unfold maxLen at *; omega) (by omega) 82
                  go_simp
                  refine hK _ _ (fun _ => hb6) ?_
                  clear hK K hrun6
                  have hbf : Bel wr wf := (hbd.trans hwe).trans hb6
                  refine wpG_force 22 _ rfl (by kernel_rfl) rfl fun wh hwh K hK => ?_
                  go_simp
                  refine hK _ _ (fun _ => GB.rf _) ?_
                  clear hK K
                  refine wpG_force 23 _ rfl (by kernel_rfl) rfl fun wi hwi K hK => ?_
                  go_simp
                  refine hK _ _ (fun _ => GB.rf _) ?_
                  clear hK K
                  refine wpG_force 24 _ rfl (by kernel_rfl) rfl fun wj hwj K hK => ?_
                  have hbj : Bel wf wj := GB.tr _ _ _ (GB.tr _ _ _ hwh hwi) hwj
                  have hbj2 : Bel wr wj := hbf.trans hbj
                  have q1 := GB.cell hbj2 hcc
                  have q2 := frozen_of_free (a := ⟨g, 0, none⟩) ((blkFree_keep (Below.block hbj2 g (World.block_lt_of_cell? wr _ hcc))).trans hfr)
                  have hlay := RHouseIs.lay (hd := ⟨A6, k + (1 + (n - k)), c6⟩) (HR.out.bel hbj2) (hsl6.stepB hbj) hc6 hm6 (R' := R.take k ++ newSale name v reserve close :: R.drop k) (by
                    have h1 := (HRR.out.mono fun _ _ h => RSaleIs.bel hbj2 h)
                    refine R2.append (R2.append (l2 := ss.drop k) (m2 := R.drop k) (R2.drop h1 k) (l := [_]) (m := [_]) ⟨?_, trivial⟩) (R2.take h1 k)
                    exact ⟨default, rfl, Sl.nil, Nat.le_refl _, Nat.zero_le _⟩)
                  go_simp
                  refine hK _ _ (fun h => absurd (by simp) h) ?_
                  clear hK K
                  have hch : Chg (fun q => q = g) wr (wj.setCell ⟨g, 0, none⟩ (.slice A6 (k + (1 + (n - k))) c6)) := (Chg.of_bel hbj2 _).tr ⟨rfl, rfl, rfl, by simp, fun k _ hn => Below.heap_setCell _ _ _ _ hn⟩
                  have hlay2 : RHouseIs (wj.setCell ⟨g, 0, none⟩ (.slice A6 (k + (1 + (n - k))) c6)) g (R.take k ++ newSale name v reserve close :: R.drop k) := hlay
                  generalize wj.setCell ⟨g, 0, none⟩ (.slice A6 (k + (1 + (n - k))) c6) = wk at hch hlay2 ⊢
                  refine wpG_end (by kernel_rfl) (fun wn hwn => ?_) _
                  have HL := Lib.hid (hlay2.bel hwn); have HCH := Lib.hid (hch.tr (Chg.of_bel hwn _))
                  clear hlay hlay2 hch hwn q1 q2 hbj hbj2 hbf hbd
                  go_wp2_with fail
                  go_ret
                  exact ⟨ret_int HO.out.symm, _, HT2.out, HL.out, HCH.out⟩
              · obtain ⟨h0, hup2⟩ := HB0.out.2 rfl
                have e1 : IntKind.i64.wrap ((k : Int) - 1) = ((k - 1 : Nat) : Int) := by rw [IntWalk.i64_in _ (by omega)]; omega
                clear HST HB0 hup
                go_wp2_with fail
                refine ⟨⟨k - 1, by omega, by first | rfl | go_num, by first | rfl | trivial, hup2⟩, ?_⟩
                simp [intOf]; omega
    · subst hi
      have HO := Lib.hid (show openR H name reserve close now = 5 by unfold openR; rw [if_neg HBD.out, if_pos (by rw [hsome]; rfl)])
      clear hsome hf hj
      have hj0 : (0 : Int) ≤ (j : Int) := by omega
      go_wp2_with fail
      go_ret
      exact ropen_no HT.out HR.out (Bel.refl _) HO.out (by decide)
end Go.Proofs.YteockodnfempfaaGreatDoor
/- What Bid of the document's house computes. Conditions: those named in each theorem. -/
namespace Go.Proofs.YteockodnfempfaaGreatDoor
open Go Go.RowKit Go.Gv Go.Sort

theorem rbid_no {w w' : World} {g : Nat} {H : MHouse} {R : List MSale} {name : ByteArray} {client amount now c : Int} (hT : Twin H R) (hR : RHouseIs w g R) (hb : Bel w w') (hc : bidR H name client amount now = c) (h0 : c ≠ 0) :
    Ending.returned (.int .i64 c) = Ending.returned (.int .i64 (bidR H name client amount now)) ∧ RLeft w g (bidH H name client amount now) w' := by
  subst hc
  refine ⟨rfl, ?_⟩
  unfold bidH
  split
  · exact RLeft.same hT hR hb
  · rw [if_neg h0]; exact RLeft.same hT hR hb
theorem rbids_has {bs : List GAuctionBid} {c : Int} : hasBid bs c = (bs.map rb).any fun b => b.client == c := by
  unfold hasBid rb
  rw [List.any_map]; rfl
theorem ref_bids (x : MSale) (h h' : Hdr) (bs : List GAuctionBid) : Enc.enc (({ x with bids := bs } : MSale).ref h') = (Enc.enc (x.ref h)).set 4 (.slice h'.a h'.len h'.cap) := rfl
set_option maxRecDepth 100000 in
set_option maxHeartbeats 4000000 in
theorem rbid_any (g : Nat) (H : MHouse) (R : List MSale) (name : ByteArray) (client amount now : Int) (w : World) (hR : RHouseIs w g R) (hT : Twin H R) (hl : R.length ≤ 1000000) (hbig : ∀ x, mget H name = some x → x.bids.length ≤ 1000000) :
    Calls Tryz.prog 53 #[.pointer (some ⟨g, 0, none⟩), .string name, .int .i64 client, .int .i64 amount, .int .u64 now] w fun e w' => e = .returned (.int .i64 (bidR H name client amount now)) ∧ RLeft w g (bidH H name client amount now) w' := by
  have HR := Lib.hid hR; have HT := Lib.hid hT
  have HF := Lib.hid (rfind_any g R name w hR hl)
  obtain ⟨hd, ss, hc, _, hfree, hs, _, _, hr⟩ := hR.cell
  obtain ⟨n, hnl⟩ : ∃ n, R.length = n := ⟨_, rfl⟩
  rw [hnl] at hc hs hl
  have HS := Lib.hid hs; have HRR := Lib.hid hr; have HNL := Lib.hid hnl; have HC := Lib.hid hc; have HFR := Lib.hid hfree
  clear hR hT hs hr hnl hfree
  go_enter Tryz.func53, Tryz.ntmps53
  go_wp2_with fail
  refine HF.out.mono ?_
  rintro _ w1 ⟨i, rfl, hf, h5⟩
  obtain rfl : w = w1 := h5.symm
  rcases HT.out.found hf with ⟨hi, hnone⟩ | ⟨j, x, hi, hj, hjn, hsome⟩
  · subst hi
    have HO := Lib.hid (show bidR H name client amount now = 6 by unfold bidR; rw [hnone])
    clear hf hnone
    go_wp2_with fail
    go_ret
    exact rbid_no HT.out HR.out (Bel.refl _) HO.out (by decide)
  · subst hi
    have hj0 : (0 : Int) ≤ (j : Int) := by omega
    have hjl := (List.getElem?_eq_some_iff.1 hj).1
    rw [HNL.out] at hjl
    have hj1 : (j : Int) < (n : Int) := by omega
    have hjn0 : ¬ (j : Int) < 0 := by omega
    obtain ⟨ad, s, hA, _, hsk, hg⟩ := HS.out.at_ (k := j) hjl
    obtain ⟨x', hx', hsx⟩ := HRR.out.at_ hsk
    rw [hj] at hx'; injection hx' with hx'; subst hx'
    obtain ⟨⟨A2, m, c2⟩, rfl, hsl2, hc2, hm2⟩ := hsx
    simp only at hsl2 hc2 hm2
    change get? GRef15Sale w (ad.add (j * 9)) = some _ at hg
    have hbl : x.bids.length = m := by have := hsl2.1; simpa using this
    have hmb := hbig x hsome
    rw [hbl] at hmb
    have f3 := cell_off (by omega) (GRef15Sale.at_close hg)
    have f4 := cell_off (by omega) (GRef15Sale.at_bids hg)
    have f5 := cell_off (by omega) (GRef15Sale.at_settled hg)
    rw [add_block] at f3 f4 f5
    have e3 : (x.ref ⟨A2, m, c2⟩).close = x.close := rfl
    have e4 : (x.ref ⟨A2, m, c2⟩).bids = ⟨A2, m, c2⟩ := rfl
    have e5 : (x.ref ⟨A2, m, c2⟩).settled = x.settled := rfl
    rw [e3] at f3; rw [e4] at f4; rw [e5] at f5
    unfold Hdr.val at f4
    rw [hA] at hc
    have HHAS := Lib.hid (rbids_has (bs := x.bids) (c := client))
    have HSL2 := Lib.hid hsl2; have HSOME := Lib.hid hsome; have HJ := Lib.hid hj; have HJN := Lib.hid hjn; have HSK := Lib.hid hsk; have HBL := Lib.hid hbl
    have HA := Lib.hid hA
    clear hf hsome hj hsk hg hsl2 e3 e4 e5 hbig hbl hA
    obtain ⟨st, hst⟩ : ∃ st, x.settled = st := ⟨_, rfl⟩
    rw [hst] at f5
    have HSTT := Lib.hid hst
    clear hst
    cases st
    · by_cases hcl : x.close < now
      · have HO := Lib.hid (show bidR H name client amount now = 11 by unfold bidR; rw [HSOME.out]; simp only; rw [if_pos (.inr hcl)])
        go_wp2_with fail
        go_ret
        exact rbid_no HT.out HR.out (Bel.refl _) HO.out (by decide)
      · obtain ⟨bad, hbad⟩ : ∃ b, badBid client amount = b := ⟨_, rfl⟩
        have HBAD := Lib.hid hbad
        have hopen : ¬ (x.settled = true ∨ x.close < now) := by rw [HSTT.out]; simp [hcl]
        have HOP := Lib.hid hopen
        clear hopen
        cases bad
        · have hbv : ¬ amount < 1 ∧ ¬ 1099511627776 < amount ∧ ¬ client < 0 ∧ ¬ 100 ≤ client := by
            unfold badBid at hbad
            simpa [and_assoc] using hbad
          obtain ⟨v1, v2, v3, v4⟩ := hbv
          clear hbad
          go_wp2_with fail
          go_loopw [61] (fun i wr => ∃ q : Nat, q ≤ m ∧ i = .int .i64 q ∧ wr = w ∧ hasBid (x.bids.take q) client = false) (fun i _ => m - (intOf i).toNat)
          case atStart => exact ⟨0, Nat.zero_le _, rfl, rfl, rfl⟩
          case round =>
            obtain ⟨q, hq, rfl, rfl, hno⟩ := hrel
            have HNO := Lib.hid hno
            clear hno
            by_cases hlt : q < m
            · obtain ⟨bd, y, rfl, _, hyk, hgy⟩ := HSL2.out.at_ (k := q) hlt
              obtain ⟨b, hbk⟩ : ∃ b, x.bids[q]? = some b := ⟨_, List.getElem?_eq_getElem (by rw [HBL.out]; exact hlt)⟩
              rw [List.getElem?_map, hbk] at hyk
              injection hyk with hyk
              subst hyk
              change get? GRef15Bid wr (bd.add (q * 2)) = some (rb b) at hgy
              have fc := GRef15Bid.at_client hgy
              rw [Addr.add_zero'] at fc
              have e1 : (rb b).client = b.client := rfl
              rw [e1] at fc
              have hq0 : (0 : Int) ≤ (q : Int) := by omega
              have hq1 : (q : Int) < (m : Int) := by omega
              obtain ⟨r, hr⟩ : ∃ r, (b.client == client) = r := ⟨_, rfl⟩
              have hstep : hasBid (x.bids.take (q + 1)) client = r := by
                have hno := HNO.out
                unfold hasBid at hno ⊢
                rw [List.take_add_one, hbk, List.any_append, hno]; simpa using hr
              have HSTEP := Lib.hid hstep; have HRB := Lib.hid hr
              clear hgy hbk e1 hstep
              cases r
              · go_wp2_with fail
                refine ⟨⟨q + 1, by omega, by go_num, by first | rfl | trivial, HSTEP.out⟩, ?_⟩
                simp [intOf]; omega
              · have hany : hasBid x.bids client = true := by
                  have := HSTEP.out
                  unfold hasBid at this ⊢
                  rw [List.any_eq_true] at this ⊢
                  obtain ⟨y, hy, hyc⟩ := this
                  exact ⟨y, List.mem_of_mem_take hy, hyc⟩
                have HO := Lib.hid (show bidR H name client amount now = 5 by unfold bidR; rw [HSOME.out]; simp only; rw [if_neg HOP.out, if_neg (by rw [HBAD.out]; decide), if_pos hany])
                clear hany
                go_wp2_with fail
                go_ret
                exact rbid_no HT.out HR.out (Bel.refl _) HO.out (by decide)
            · obtain rfl : q = m := by omega
              have hall : hasBid x.bids client = false := by
                have := HNO.out
                rwa [List.take_of_length_le (by rw [HBL.out]; exact Nat.le_refl _)] at this
              have HO := Lib.hid (show bidR H name client amount now = 0 by unfold bidR; rw [HSOME.out]; simp only; rw [if_neg HOP.out, if_neg (by rw [HBAD.out]; decide), if_neg (by rw [hall]; decide)])
              have hn1 : ¬ (q : Int) < (q : Int) := by omega
              -- the list is copied
              obtain ⟨v7, w7, hrun7, ho7, hg7, _⟩ := gAppend_S (P := Tryz.prog) ei82 (t := 82) (OwnS.nil (α := GRef15Sale) wr wr.heap.size 137) (c := hd.cap) HS.out (by simp; unfold maxLen; omega) (by simp; omega) (Nat.le_refl _) 82
              have hb7 : Bel wr w7 := (Bel.refl wr).appS hg7 (OwnS.nil (α := GRef15Sale) wr wr.heap.size 137) (Nat.le_refl _)
              obtain ⟨A7, c7, hv7, hoa7, h7, h8⟩ := OwnS.ownA ho7
              rw [List.nil_append] at hv7 hoa7 h7
              subst hv7
              have hlen : ss.length = n := HS.out.1
              obtain ⟨b7, rfl, hb71, hb72, hb73⟩ := OwnA.place hoa7 (by rw [hlen]; omega)
              rw [hlen] at hrun7 h7
              have hcc := HC.out
              have q1 := GB.cell hb7 hcc
              have q2 := frozen_of_free (a := ⟨g, 0, none⟩) ((blkFree_keep (Below.block hb7 g (World.block_lt_of_cell? wr _ hcc))).trans HFR.out)
              rw [HA.out] at hrun7
              clear hg7
              go_upto_region 15 with fail
              have hlay : RHouseIs (w7.setCell ⟨g, 0, none⟩ (.slice (some ⟨b7, 0, none⟩) n c7)) g R := RHouseIs.lay (hd := ⟨some ⟨b7, 0, none⟩, n, c7⟩) (HR.out.bel hb7) (by have := hoa7.sl; rw [hlen] at this; exact this) h7 h8 (HRR.out.mono fun _ _ h => RSaleIs.bel hb7 h)
              have hch : Chg (fun q => q = g) w7 (w7.setCell ⟨g, 0, none⟩ (.slice (some ⟨b7, 0, none⟩) n c7)) := ⟨rfl, rfl, rfl, by simp, fun k _ hn => Below.heap_setCell _ _ _ _ hn⟩
              have hgl : g < wr.heap.size := HR.out.lt
              have hoa8 : OwnA (w7.setCell ⟨g, 0, none⟩ (.slice (some ⟨b7, 0, none⟩) n c7)) wr.heap.size 137 (some ⟨b7, 0, none⟩) c7 ss := OwnS.chg hoa7 hch (fun k hk e => by
                have hk2 : b7 = k := by injection hk
                omega)
              have hsz8 : b7 < (w7.setCell ⟨g, 0, none⟩ (.slice (some ⟨b7, 0, none⟩) n c7)).heap.size := by simpa using hb72
              have hchw : Chg (fun q => q = g) wr (w7.setCell ⟨g, 0, none⟩ (.slice (some ⟨b7, 0, none⟩) n c7)) := (Chg.of_bel hb7 _).tr hch
              have hcell : (w7.setCell ⟨g, 0, none⟩ (.slice (some ⟨b7, 0, none⟩) n c7)).cell? ⟨g, 0, none⟩ = some (.slice (some ⟨b7, 0, none⟩) n c7) := World.cell?_setCell_same w7 _ _ q1
              clear hch q1 q2 hb7 hoa7 hrun7
              generalize w7.setCell ⟨g, 0, none⟩ (.slice (some ⟨b7, 0, none⟩) n c7) = w8 at hlay hoa8 hchw hcell hsz8 ⊢
              have hsl8 := hoa8.sl
              obtain ⟨ad8, s8, e8, _, hs8k, hg8⟩ := hsl8.at_ (k := j) (by rw [hlen]; exact hjl)
              injection e8 with e8; subst e8
              rw [HSK.out] at hs8k; injection hs8k with hs8k; subst hs8k
              rw [addN, Nat.zero_add] at hg8
              change get? GRef15Sale w8 ⟨b7, j * 9, none⟩ = some _ at hg8
              have k4 : w8.cell? ⟨b7, j * 9 + 4, none⟩ = some (.slice A2 q c2) := by
                have := GRef15Sale.at_bids hg8
                rw [addN] at this
                exact this
              have hbids8 : Sl GRef15Bid w8 w8.heap.size A2 q (x.bids.map rb) := Odd.sl (S := fun k => k = g) (fun k e => by subst e; exact HR.out.odd) hchw HSL2.out
              have hb78 : b7 < w8.heap.size := hsz8
              have hb7g : b7 ≠ g := by omega
              have hfb8 : blkFree w8 b7 = true := by
                obtain ⟨b', e', _, _, hfb⟩ := OwnA.place hoa8 (by rw [hlen]; omega)
                injection e' with e'; injection e' with e'; subst e'; exact hfb
              refine wp_region_H GB (GZ w8.heap.size) [18, 19, 20, 21] [21] GB.rf (by kernel_rfl) ?_
              refine wpH_looks 6 22 [0,1,2,3,4,5,6,7,8,9,10,11,12,14,15,16] rfl GB.rf GB.tr (GZ.rf _) (GZ.tr _) (GZ.sub _) (by kernel_rfl) (fun _ _ _ _ hd h => And.intro (hd ▸ And.left h) (And.right h)) rfl (by kernel_rfl) ?_
              intro ι W hne CW
              have hcw : ∀ z, Bel w8 (W z) := fun z => GB.undrew (CW.out z (Nat.le_refl _))
              have g1 : ∀ z, (W z).cell? ⟨g, 0, none⟩ = some (.slice (some ⟨b7, 0, none⟩) n c7) := fun z => GB.cell (hcw z) hcell
              have g2 : ∀ z, (W z).cell? ⟨b7, j * 9 + 4, none⟩ = some (.slice A2 q c2) := fun z => GB.cell (hcw z) k4
              repeat (refine wpLooksG_step (fun K hK => ?_); go_simp; refine hK _ ?_; clear hK K)
              refine wpLooksG_nil ?_
              clear g1 g2 hcw CW hne W ι
              refine wpH_two 13 17 _ _ rfl rfl (by kernel_rfl) rfl rfl ?_ ?_
              · intro wa hwa K hK
                obtain ⟨v7, wb, hrunb, ho7b, hgb7, _⟩ := gAppend_S (P := Tryz.prog) ei135 (t := 135) (OwnS.nil (α := GRef15Bid) wa wa.heap.size 141) (c := c2) (hbids8.stepB hwa.undrew) (by simp; unfold maxLen; omega) (by simp; omega) (Nat.le_refl _) 135
                have hb10 : GB wa wb := (Bel.refl wa).appS hgb7 (OwnS.nil (α := GRef15Bid) wa wa.heap.size 141) (Nat.le_refl _)
                rw [List.nil_append] at ho7b
                go_simp
                refine hK _ _ (fun _ => hb10) (fun _ => GZ.sub _ _ _ hb10) ?_
                clear hK K hrunb
                refine wpH_force 17 _ rfl (by kernel_rfl) rfl fun wb' hwc' K hK => ?_
                go_simp
                refine hK _ _ (fun _ => GB.al _ _) (fun _ => GZ.sub _ _ _ (GB.al _ _)) ?_
                clear hK K
                obtain ⟨wc, hwcE⟩ : ∃ wc, wb'.alloc (.cells (GRef15Bid.enc ⟨client, amount⟩).toArray 141) = wc := ⟨_, rfl⟩
                have hbc : Bel w8 wc := by rw [← hwcE]; exact ((hwa.undrew.trans hb10).trans hwc').alloc _
                have ho8 : OwnS wc w8.heap.size 141 v7 (x.bids.map rb) := by rw [← hwcE]; exact ((OwnS.mono ho7b (Below.size hwa.undrew)).step hwc').step (GB.al _ _)
                have hs8 : Sl GRef15Bid wc wc.heap.size (some ⟨wb'.heap.size, 0, none⟩) 1 [(⟨client, amount⟩ : GRef15Bid)] := by rw [← hwcE]; exact Sl.new_ (by simp; rfl) rfl rfl (by simp)
                rw [hwcE]
                refine wpH_force 18 _ rfl (by kernel_rfl) rfl fun wd hwd K hK => ?_
                have hbl8 : (x.bids.map rb).length ≤ 1000000 := by rw [List.length_map, HBL.out]; exact hmb
                obtain ⟨v9, we, hrun9, ho9, hg9, _⟩ := gAppend_S (P := Tryz.prog) ei135 (t := 135) (OwnS.step ho8 hwd) (c := 1) (hs8.stepB hwd) (Nat.le_trans (Nat.add_le_add_right hbl8 1) (by unfold maxLen; omega)) (Nat.le_trans (Nat.mul_le_mul_right _ (Nat.add_le_add_right hbl8 1)) (by omega)) (Below.size (hbc.trans hwd)) 135
                have hbe : Bel w8 we := (hbc.trans hwd).appS hg9 (OwnS.step ho8 hwd) (Nat.le_refl _)
                have hgz : GZ w8.heap.size wd we := fun hb => Gv.Below.appS (Below.refl w8.heap.size wd) hg9 (OwnS.step ho8 hwd) (Nat.le_refl _) hb
                obtain ⟨A9, c9, hv9, hoa9, h9, h10⟩ := OwnS.ownA ho9
                have hl9 : (x.bids.map rb ++ [(⟨client, amount⟩ : GRef15Bid)]).length = q + 1 := by rw [List.length_append, List.length_map, HBL.out]; rfl
                have hA9 : ∀ ad, A9 = some ad → w8.heap.size ≤ ad.block := by
                  obtain ⟨A', c', hv, _, _, _, hf⟩ := OwnS.shape hoa9
                  injection hv with e1 _ _; subst e1
                  exact fun ad ha => (hf ad ha).1
                have hsl9 := hoa9.sl
                rw [hl9] at hv9 h9 hsl9
                subst hv9
                go_simp
                refine hK _ _ (fun h => absurd (by simp) h) (fun _ => hgz) ?_
                clear hK K hrun9 hgz hg9 ho9 hoa9
                refine wpH_force 19 _ rfl (by kernel_rfl) rfl fun wf hwf K hK => ?_
                go_simp
                refine hK _ _ (fun h => absurd (by simp) h) (fun _ => GZ.rf _ _) ?_
                clear hK K
                refine wpH_force 20 _ rfl (by kernel_rfl) rfl fun wg hwg K hK => ?_
                go_simp
                refine hK _ _ (fun h => absurd (by simp) h) (fun _ => GZ.rf _ _) ?_
                clear hK K
                refine wpH_force 21 _ rfl (by kernel_rfl) rfl fun wh hwh K hK => ?_
                have heh : GB we wh := GB.tr _ _ _ (GB.tr _ _ _ hwf hwg) hwh
                have hbh : Bel w8 wh := hbe.trans heh
                have hoh : OwnA wh wr.heap.size 137 (some ⟨b7, 0, none⟩) c7 ss := OwnA.stepB hoa8 hbh
                have hpoke := OwnA.poke (k := j) (j := 4) (x := x.ref ⟨A2, q, c2⟩) (y := (x.bid client amount).ref ⟨A9, q + 1, c9⟩) (v := .slice A9 (q + 1) c9) hoh HSK.out (by show 4 < 9; omega) (ref_bids x _ _ _)
                have q5 := GB.cell hbh k4
                have q6 := frozen_of_free (a := ⟨b7, j * 9 + 4, none⟩) ((blkFree_keep (Below.block hbh b7 hb78)).trans hfb8)
                have hchk : Chg (fun q => q = b7) wh (wh.setCell ⟨b7, j * 9 + 4, none⟩ (.slice A9 (q + 1) c9)) := ⟨rfl, rfl, rfl, by simp, fun k _ hn => Below.heap_setCell _ _ _ _ hn⟩
                have hch0 : Chg (fun q => q = g) wr (wh.setCell ⟨b7, j * 9 + 4, none⟩ (.slice A9 (q + 1) c9)) := (hchw.tr (Chg.of_bel hbh _)).trans hchk (fun k hk => .inr (by rw [hk]; exact hb71))
                have hbid : (x.bid client amount).bids.map rb = x.bids.map rb ++ [(⟨client, amount⟩ : GRef15Bid)] := by show (x.bids ++ [_]).map rb = _; rw [List.map_append]; rfl
                have hfin : RHouseIs (wh.setCell ⟨b7, j * 9 + 4, none⟩ (.slice A9 (q + 1) c9)) g (R.set j (x.bid client amount)) := by
                  obtain ⟨hd9, ss9, hb9, _, _, _, hr9⟩ := hlay.bel hbh
                  have hb10 : hd9 = ⟨some ⟨b7, 0, none⟩, n, c7⟩ := by
                    have h1 := GB.cell hbh hcell
                    have h2 : wh.cell? ⟨g, 0, none⟩ = some hd9.val := by unfold World.cell?; simp only [hb9]; rfl
                    rw [h1] at h2
                    injection h2 with h2
                    unfold Hdr.val at h2
                    injection h2 with h3 h4 h5
                    obtain ⟨a, b, c⟩ := hd9
                    simp only at h3 h4 h5
                    subst h3; subst h4; subst h5; rfl
                  subst hb10
                  have hOdd : ∀ z, z = b7 → True := fun _ _ => trivial
                  refine ⟨⟨some ⟨b7, 0, none⟩, n, c7⟩, ss.set j ((x.bid client amount).ref ⟨A9, q + 1, c9⟩), ?_, ?_, h7, h8, ?_⟩
                  · rw [Below.heap_setCell _ _ _ _ (fun e => hb7g e.symm)]; exact hb9
                  · have := hpoke.sl
                    rw [List.length_set, hlen] at this
                    exact this
                  · have hr10 : R2 (RSaleIs (wh.setCell ⟨b7, j * 9 + 4, none⟩ (.slice A9 (q + 1) c9))) ss R := HRR.out.mono fun _ _ h => RSaleIs.odd (S := fun k => k = g) (fun k e => by subst e; exact HR.out.odd) hch0 h
                    refine R2.set ⟨⟨A9, q + 1, c9⟩, rfl, ?_, h9, h10⟩ hr10 j
                    have := (hsl9.stepB heh).setCell_ ⟨b7, j * 9 + 4, none⟩ (.slice A9 (q + 1) c9) (fun _ ad ha => by have := hA9 ad ha; simp only; omega)
                    rw [hbid]
                    simpa using this
                go_simp
                refine hK _ _ (fun h => absurd (by simp) h) (fun h => absurd (by simp) h) ?_
                clear hK K
                generalize wh.setCell ⟨b7, j * 9 + 4, none⟩ (.slice A9 (q + 1) c9) = wk at hch0 hfin ⊢
                refine wpH_end (by kernel_rfl) (fun wn hwn => ?_) _
                have HL := Lib.hid (hfin.bel hwn); have HCH := Lib.hid (hch0.tr (Chg.of_bel hwn _))
                have HTW := Lib.hid (HT.out.upd HJ.out (x := x.bid client amount) rfl)
                clear hfin hch0 hpoke hchk q5 q6 hoh hbh heh hbe hwn
                go_wp2_with fail
                go_ret
                refine ⟨ret_int HO.out.symm, _, ?_, HL.out, HCH.out⟩
                unfold bidH
                rw [HSOME.out]
                simp only
                rw [if_pos HO.out]
                have h1 := HTW.out
                rw [HJN.out] at h1
                exact h1
              · intro wa hwa K hK
                go_simp
                refine hK _ _ (fun _ => GB.al _ _) (fun _ => GZ.sub _ _ _ (GB.al _ _)) ?_
                clear hK K
                refine wpH_force 13 _ rfl (by kernel_rfl) rfl fun wb' hwc' K hK => ?_
                have hbc1 : Bel w8 wb' := (hwa.undrew.alloc _).trans hwc'
                have hs7 : Sl GRef15Bid wb' wb'.heap.size (some ⟨wa.heap.size, 0, none⟩) 1 [(⟨client, amount⟩ : GRef15Bid)] := (Sl.new_ (w := wa) (t := 141) (B := (wa.alloc (.cells (GRef15Bid.enc ⟨client, amount⟩).toArray 141)).heap.size) (by simp; rfl) rfl rfl (by simp) : Sl GRef15Bid (wa.alloc (.cells (GRef15Bid.enc ⟨client, amount⟩).toArray 141)) _ (some ⟨wa.heap.size, 0, none⟩) 1 [(⟨client, amount⟩ : GRef15Bid)]).stepB hwc'
                obtain ⟨v7, wc, hrunb, ho7b, hgb7, _⟩ := gAppend_S (P := Tryz.prog) ei135 (t := 135) (OwnS.nil (α := GRef15Bid) wb' wb'.heap.size 141) (c := c2) (hbids8.stepB hbc1) (by simp; unfold maxLen; omega) (by simp; omega) (Nat.le_refl _) 135
                have hb10 : GB wb' wc := (Bel.refl wb').appS hgb7 (OwnS.nil (α := GRef15Bid) wb' wb'.heap.size 141) (Nat.le_refl _)
                rw [List.nil_append] at ho7b
                go_simp
                refine hK _ _ (fun _ => hb10) (fun _ => GZ.sub _ _ _ hb10) ?_
                clear hK K hrunb
                have hbc : Bel w8 wc := hbc1.trans hb10
                have ho8 : OwnS wc w8.heap.size 141 v7 (x.bids.map rb) := OwnS.mono ho7b (Below.size hbc1)
                have hs8 : Sl GRef15Bid wc wc.heap.size (some ⟨wa.heap.size, 0, none⟩) 1 [(⟨client, amount⟩ : GRef15Bid)] := hs7.stepB hb10
                refine wpH_force 18 _ rfl (by kernel_rfl) rfl fun wd hwd K hK => ?_
                have hbl8 : (x.bids.map rb).length ≤ 1000000 := by rw [List.length_map, HBL.out]; exact hmb
                obtain ⟨v9, we, hrun9, ho9, hg9, _⟩ := gAppend_S (P := Tryz.prog) ei135 (t := 135) (OwnS.step ho8 hwd) (c := 1) (hs8.stepB hwd) (Nat.le_trans (Nat.add_le_add_right hbl8 1) (by unfold maxLen; omega)) (Nat.le_trans (Nat.mul_le_mul_right _ (Nat.add_le_add_right hbl8 1)) (by omega)) (Below.size (hbc.trans hwd)) 135
                have hbe : Bel w8 we := (hbc.trans hwd).appS hg9 (OwnS.step ho8 hwd) (Nat.le_refl _)
                have hgz : GZ w8.heap.size wd we := fun hb => Gv.Below.appS (Below.refl w8.heap.size wd) hg9 (OwnS.step ho8 hwd) (Nat.le_refl _) hb
                obtain ⟨A9, c9, hv9, hoa9, h9, h10⟩ := OwnS.ownA ho9
                have hl9 : (x.bids.map rb ++ [(⟨client, amount⟩ : GRef15Bid)]).length = q + 1 := by rw [List.length_append, List.length_map, HBL.out]; rfl
                have hA9 : ∀ ad, A9 = some ad → w8.heap.size ≤ ad.block := by
                  obtain ⟨A', c', hv, _, _, _, hf⟩ := OwnS.shape hoa9
                  injection hv with e1 _ _; subst e1
                  exact fun ad ha => (hf ad ha).1
                have hsl9 := hoa9.sl
                rw [hl9] at hv9 h9 hsl9
                subst hv9
                go_simp
                refine hK _ _ (fun h => absurd (by simp) h) (fun _ => hgz) ?_
                clear hK K hrun9 hgz hg9 ho9 hoa9
                refine wpH_force 19 _ rfl (by kernel_rfl) rfl fun wf hwf K hK => ?_
                go_simp
                refine hK _ _ (fun h => absurd (by simp) h) (fun _ => GZ.rf _ _) ?_
                clear hK K
                refine wpH_force 20 _ rfl (by kernel_rfl) rfl fun wg hwg K hK => ?_
                go_simp
                refine hK _ _ (fun h => absurd (by simp) h) (fun _ => GZ.rf _ _) ?_
                clear hK K
                refine wpH_force 21 _ rfl (by kernel_rfl) rfl fun wh hwh K hK => ?_
                have heh : GB we wh := GB.tr _ _ _ (GB.tr _ _ _ hwf hwg) hwh
                have hbh : Bel w8 wh := hbe.trans heh
                have hoh : OwnA wh wr.heap.size 137 (some ⟨b7, 0, none⟩) c7 ss := OwnA.stepB hoa8 hbh
                have hpoke := OwnA.poke (k := j) (j := 4) (x := x.ref ⟨A2, q, c2⟩) (y := (x.bid client amount).ref ⟨A9, q + 1, c9⟩) (v := .slice A9 (q + 1) c9) hoh HSK.out (by show 4 < 9; omega) (ref_bids x _ _ _)
                have q5 := GB.cell hbh k4
                have q6 := frozen_of_free (a := ⟨b7, j * 9 + 4, none⟩) ((blkFree_keep (Below.block hbh b7 hb78)).trans hfb8)
                have hchk : Chg (fun q => q = b7) wh (wh.setCell ⟨b7, j * 9 + 4, none⟩ (.slice A9 (q + 1) c9)) := ⟨rfl, rfl, rfl, by simp, fun k _ hn => Below.heap_setCell _ _ _ _ hn⟩
                have hch0 : Chg (fun q => q = g) wr (wh.setCell ⟨b7, j * 9 + 4, none⟩ (.slice A9 (q + 1) c9)) := (hchw.tr (Chg.of_bel hbh _)).trans hchk (fun k hk => .inr (by rw [hk]; exact hb71))
                have hbid : (x.bid client amount).bids.map rb = x.bids.map rb ++ [(⟨client, amount⟩ : GRef15Bid)] := by show (x.bids ++ [_]).map rb = _; rw [List.map_append]; rfl
                have hfin : RHouseIs (wh.setCell ⟨b7, j * 9 + 4, none⟩ (.slice A9 (q + 1) c9)) g (R.set j (x.bid client amount)) := by
                  obtain ⟨hd9, ss9, hb9, _, _, _, hr9⟩ := hlay.bel hbh
                  have hb10 : hd9 = ⟨some ⟨b7, 0, none⟩, n, c7⟩ := by
                    have h1 := GB.cell hbh hcell
                    have h2 : wh.cell? ⟨g, 0, none⟩ = some hd9.val := by unfold World.cell?; simp only [hb9]; rfl
                    rw [h1] at h2
                    injection h2 with h2
                    unfold Hdr.val at h2
                    injection h2 with h3 h4 h5
                    obtain ⟨a, b, c⟩ := hd9
                    simp only at h3 h4 h5
                    subst h3; subst h4; subst h5; rfl
                  subst hb10
                  have hOdd : ∀ z, z = b7 → True := fun _ _ => trivial
                  refine ⟨⟨some ⟨b7, 0, none⟩, n, c7⟩, ss.set j ((x.bid client amount).ref ⟨A9, q + 1, c9⟩), ?_, ?_, h7, h8, ?_⟩
                  · rw [Below.heap_setCell _ _ _ _ (fun e => hb7g e.symm)]; exact hb9
                  · have := hpoke.sl
                    rw [List.length_set, hlen] at this
                    exact this
                  · have hr10 : R2 (RSaleIs (wh.setCell ⟨b7, j * 9 + 4, none⟩ (.slice A9 (q + 1) c9))) ss R := HRR.out.mono fun _ _ h => RSaleIs.odd (S := fun k => k = g) (fun k e => by subst e; exact HR.out.odd) hch0 h
                    refine R2.set ⟨⟨A9, q + 1, c9⟩, rfl, ?_, h9, h10⟩ hr10 j
                    have := (hsl9.stepB heh).setCell_ ⟨b7, j * 9 + 4, none⟩ (.slice A9 (q + 1) c9) (fun _ ad ha => by have := hA9 ad ha; simp only; omega)
                    rw [hbid]
                    simpa using this
                go_simp
                refine hK _ _ (fun h => absurd (by simp) h) (fun h => absurd (by simp) h) ?_
                clear hK K
                generalize wh.setCell ⟨b7, j * 9 + 4, none⟩ (.slice A9 (q + 1) c9) = wk at hch0 hfin ⊢
                refine wpH_end (by kernel_rfl) (fun wn hwn => ?_) _
                have HL := Lib.hid (hfin.bel hwn); have HCH := Lib.hid (hch0.tr (Chg.of_bel hwn _))
                have HTW := Lib.hid (HT.out.upd HJ.out (x := x.bid client amount) rfl)
                clear hfin hch0 hpoke hchk q5 q6 hoh hbh heh hbe hwn
                go_wp2_with fail
                go_ret
                refine ⟨ret_int HO.out.symm, _, ?_, HL.out, HCH.out⟩
                unfold bidH
                rw [HSOME.out]
                simp only
                rw [if_pos HO.out]
                have h1 := HTW.out
                rw [HJN.out] at h1
                exact h1
        · have HO := Lib.hid (show bidR H name client amount now = 1 by unfold bidR; rw [HSOME.out]; simp only; rw [if_neg HOP.out, if_pos HBAD.out])
          have hfin := Lib.hid (rbid_no (client := client) (amount := amount) HT.out HR.out (Bel.refl _) HO.out (by decide))
          by_cases v1 : amount < 1
          · clear hbad
            go_wp2_with fail
            go_ret
            exact hfin.out
          · by_cases v2 : 1099511627776 < amount
            · clear hbad
              go_wp2_with fail
              go_ret
              exact hfin.out
            · by_cases v3 : client < 0
              · clear hbad
                go_wp2_with fail
                go_ret
                exact hfin.out
              · have v4 : 100 ≤ client := by
                  unfold badBid at hbad
                  simp [v1, v2, v3] at hbad
                  omega
                clear hbad
                go_wp2_with fail
                go_ret
                exact hfin.out
    · have HO := Lib.hid (show bidR H name client amount now = 11 by unfold bidR; rw [HSOME.out]; simp only; rw [if_pos (.inl HSTT.out)])
      go_wp2_with fail
      go_ret
      exact rbid_no HT.out HR.out (Bel.refl _) HO.out (by decide)
end Go.Proofs.YteockodnfempfaaGreatDoor
/- What Settle of the document's house computes: which auctions are due. Conditions: those named in each theorem. -/
namespace Go.Proofs.YteockodnfempfaaGreatDoor
open Go Go.RowKit Go.Gv Go.Sort

def i64s (I : List Nat) : List I64 := I.map fun (i : Nat) => (⟨(i : Int)⟩ : I64)
instance : FirstOk I64 := ⟨fun _ => .inl ⟨_, _, rfl⟩⟩
theorem i64s_len (I : List Nat) : (i64s I).length = I.length := by unfold i64s; simp
theorem i64s_get {I : List Nat} {k i : Nat} (h : I[k]? = some i) : (i64s I)[k]? = some ⟨(i : Int)⟩ := by unfold i64s; rw [List.getElem?_map, h]; rfl
theorem i64s_ins (I : List Nat) (p k : Nat) : i64s (I.take p ++ k :: I.drop p) = (i64s I).take p ++ (⟨(k : Int)⟩ :: (i64s I).drop p) := by unfold i64s; simp
/-- A slice of numbers, its header. -/
def DueIs (w : World) (v : Value) (I : List Nat) : Prop := ∃ (A : Option Addr) (c : Nat), v = .slice A I.length c ∧ Sl I64 w w.heap.size A I.length (i64s I) ∧ I.length ≤ c ∧ c ≤ maxLen ∧ (A = none → c = 0)
theorem chgPut {w : World} {a : Addr} (cs : List Value) : Chg (fun k => k = a.block) w (World.putCells w a cs) := by
  unfold World.putCells
  have key : ∀ (cs : List Value) (i : Nat) (w : World), Chg (fun k => k = a.block) w (World.putFrom w a i cs) := by
    intro cs
    induction cs with
    | nil => intro i w; exact Chg.refl _ _
    | cons v vs ih => intro i w; exact (show Chg (fun k => k = a.block) w (w.setCell (a.add i) v) from ⟨rfl, rfl, rfl, by simp, fun k _ hn => Below.heap_setCell _ _ _ _ (by rw [add_block]; exact hn)⟩).tr (ih _ _)
  exact key cs 0 w
theorem put3 (w : World) (b o : Nat) (u v z : Value) : World.putCells w ⟨b, o, none⟩ [u, v, z] = ((w.setCell ⟨b, o, none⟩ u).setCell ⟨b, o + 1, none⟩ v).setCell ⟨b, o + 2, none⟩ z := by
  unfold World.putCells
  simp only [World.putFrom, addN, Nat.add_zero, Nat.zero_add]
/-- A sale of the document's that is done. -/
def refDone (s : GRef15Sale) (x : GRef15Result) : GRef15Sale := { s with settled := true, r := x }
theorem own_res {w : World} {base c b i : Nat} {xs : List GRef15Sale} {s : GRef15Sale} (h : OwnA w base 137 (some ⟨b, 0, none⟩) c xs) (hk : xs[i]? = some s) (x : GRef15Result) :
    OwnA (World.putCells w ⟨b, i * 9 + 6, none⟩ (GRef15Result.enc x)) base 137 (some ⟨b, 0, none⟩) c (xs.set i { s with r := x }) := by
  have hil := (List.getElem?_eq_some_iff.1 hk).1
  have e : GRef15Result.enc x = [.string x.name, .int .i64 x.winner, .int .i64 x.price] := rfl
  rw [e, put3]
  obtain ⟨y2, e2⟩ : ∃ y2 : GRef15Sale, y2 = { s with r := ⟨x.name, s.r.winner, s.r.price⟩ } := ⟨_, rfl⟩
  obtain ⟨y3, e3⟩ : ∃ y3 : GRef15Sale, y3 = { s with r := ⟨x.name, x.winner, s.r.price⟩ } := ⟨_, rfl⟩
  obtain ⟨y4, e4⟩ : ∃ y4 : GRef15Sale, y4 = { s with r := x } := ⟨_, rfl⟩
  have h2 := OwnA.poke (k := i) (j := 6) (x := s) (y := y2) (v := .string x.name) h hk (by show 6 < 9; omega) (by rw [e2]; rfl)
  have h3 := OwnA.poke (k := i) (j := 7) (x := y2) (y := y3) (v := .int .i64 x.winner) h2 (by rw [List.getElem?_set_self hil]) (by show 7 < 9; omega) (by rw [e2, e3]; rfl)
  have h4 := OwnA.poke (k := i) (j := 8) (x := y3) (y := y4) (v := .int .i64 x.price) h3 (by rw [List.getElem?_set_self (by simpa using hil)]) (by show 8 < 9; omega) (by rw [e3, e4]; rfl)
  rw [List.set_set, List.set_set] at h4
  rw [← e4]
  exact h4
/-- A sale at its place in an own list. -/
theorem own_at {w : World} {base c b i : Nat} {xs : List GRef15Sale} {s : GRef15Sale} (h : OwnA w base 137 (some ⟨b, 0, none⟩) c xs) (hk : xs[i]? = some s) : get? GRef15Sale w ⟨b, i * 9, none⟩ = some s := by
  obtain ⟨ad, s', e8, _, hs8k, hgh⟩ := h.sl.at_ (k := i) (List.getElem?_eq_some_iff.1 hk).1
  rw [hk] at hs8k
  injection hs8k with hs8k
  subst hs8k
  injection e8 with e8
  subst e8
  rw [addN, Nat.zero_add] at hgh
  exact hgh
theorem own_r {w : World} {base c b i : Nat} {xs : List GRef15Sale} {s : GRef15Sale} (h : OwnA w base 137 (some ⟨b, 0, none⟩) c xs) (hk : xs[i]? = some s) : get? GRef15Result w ⟨b, i * 9 + 6, none⟩ = some s.r := by
  have := GRef15Sale.at_r (own_at h hk)
  rwa [addN] at this
/-- Whether the search for a place goes on. -/
def DueGo (R : List MSale) (I : List Nat) (x : MSale) (p : Nat) (b : Bool) : Prop := (b = false → (p = 0 ∨ ∃ i t, I[p - 1]? = some i ∧ R[i]? = some t ∧ t.close ≤ x.close)) ∧ (b = true → 0 < p ∧ ∀ (j i : Nat) (t : MSale), p - 1 ≤ j → I[j]? = some i → R[i]? = some t → x.close < t.close)
set_option maxRecDepth 100000 in
set_option maxHeartbeats 8000000 in
theorem rsettle_any (g : Nat) (H : MHouse) (R : List MSale) (now : Int) (w : World) (hR : RHouseIs w g R) (hT : Twin H R) (hl : R.length ≤ 1000000) (hbids : ∀ x ∈ R, x.bids.length ≤ 1000000) :
    Calls Tryz.prog 48 #[.pointer (some ⟨g, 0, none⟩), .int .u64 now] w fun e w' => ∃ (D : List MSale) (v : Value), e = .returned v ∧ D.Perm (R.filter (dueB now)) ∧ D.Pairwise saleLe ∧ OwnS w' w.heap.size 94 v (D.map fun x => rr (endR x)) ∧ RHouseIs w' g (settleL R now) ∧ Chg (fun q => q = g) w w' := by
  have HR := Lib.hid hR; have HT := Lib.hid hT; have HBI := Lib.hid hbids
  obtain ⟨hd, ss, hc, _, hfree, hs, _, _, hr⟩ := hR.cell
  obtain ⟨A0, m0, c0⟩ := hd
  simp only at hc hs
  obtain ⟨n, hnl⟩ : ∃ n, R.length = n := ⟨_, rfl⟩
  rw [hnl] at hc hs hl
  have HS := Lib.hid hs; have HRR := Lib.hid hr; have HNL := Lib.hid hnl; have HC := Lib.hid hc; have HFR := Lib.hid hfree
  clear hR hT hs hr hnl hfree hbids
  go_enter Tryz.func48, Tryz.ntmps48
  go_upto_block 0 with fail
  go_cut [5] (fun v wx => ∃ I : List Nat, DueL R now n I ∧ DueIs wx v I ∧ Bel w wx)
  case first => as_aux_lemma =>
    go_wp2_with fail
    clear hc
    go_loopw [5, 16] (fun v i wr => ∃ (k : Nat) (I : List Nat), k ≤ n ∧ i = .int .i64 k ∧ DueL R now k I ∧ DueIs wr v I ∧ Bel w wr) (fun _ i _ => n - (intOf i).toNat)
    case atStart => exact ⟨0, [], Nat.zero_le _, rfl, DueL.start _ _, ⟨none, 0, rfl, Sl.nil, Nat.le_refl _, Nat.zero_le _, fun _ => rfl⟩, Bel.refl _⟩
    case round =>
      obtain ⟨k, I, hk, rfl, hdue, hdi, hb⟩ := hrel
      have HD := Lib.hid hdue; have HDI := Lib.hid hdi; have HB := Lib.hid hb
      clear hdue hdi hb
      by_cases hlt : k < n
      · obtain ⟨ad, s, rfl, _, hsk, hg⟩ := (HS.out.stepB HB.out).at_ (k := k) hlt
        obtain ⟨x, hx, hsx⟩ := HRR.out.at_ hsk
        change get? GRef15Sale wr (ad.add (k * 9)) = some s at hg
        have f3 := cell_off (by omega) (GRef15Sale.at_close hg)
        have f5 := cell_off (by omega) (GRef15Sale.at_settled hg)
        rw [add_block] at f3 f5
        have e3 : s.close = x.close := by obtain ⟨_, rfl, _⟩ := hsx; rfl
        have e5 : s.settled = x.settled := by obtain ⟨_, rfl, _⟩ := hsx; rfl
        rw [e3] at f3; rw [e5] at f5
        have hc := GB.cell HB.out HC.out
        have hlt2 : (k : Int) < (n : Int) := by omega
        have hk0 : (0 : Int) ≤ (k : Int) := by omega
        have HX := Lib.hid hx
        clear hsk hsx hg hx e3 e5
        obtain ⟨st, hst⟩ : ∃ st, x.settled = st := ⟨_, rfl⟩
        rw [hst] at f5
        have HSTT := Lib.hid hst
        clear hst
        obtain ⟨A5, c5, rfl, hsl5, hc5, hm5, hA5⟩ := HDI.out
        have H5 := Lib.hid (show DueIs wr (.slice A5 I.length c5) I from ⟨A5, c5, rfl, hsl5, hc5, hm5, hA5⟩)
        cases st
        · by_cases hcl : now ≤ x.close
          · have hskip := Lib.hid (HD.out.skip HX.out (by unfold dueB; rw [HSTT.out]; simp; omega))
            clear hsl5 hc5 hm5
            go_wp2_with fail
            exact ⟨⟨k + 1, I, by omega, by go_num, hskip.out, H5.out, HB.out⟩, by simp [intOf]; omega⟩
          · have hdb : dueB now x = true := by unfold dueB; rw [HSTT.out]; simp; omega
            have HDB := Lib.hid hdb
            clear hdb
            obtain ⟨q, hql⟩ : ∃ q, I.length = q := ⟨_, rfl⟩
            rw [hql] at hsl5 hc5 ⊢
            have hqn : q ≤ 1000000 := by
              have h1 := HD.out.perm.length_eq
              rw [hql] at h1
              rw [h1]
              exact Nat.le_trans (List.length_filter_le _ _) (by rw [List.length_range]; omega)
            have HSL5 := Lib.hid hsl5; have HQL := Lib.hid hql
            have hncl : ¬ now ≤ x.close := hcl
            clear H5 hsl5 hql
            go_wp2_with fail
            go_loopw [7] (fun vp wj => ∃ p : Nat, p ≤ q ∧ vp = .int .i64 p ∧ Bel wr wj ∧ Hid (∀ (j i : Nat) (t : MSale), p ≤ j → I[j]? = some i → R[i]? = some t → x.close < t.close)) (fun vp _ => (intOf vp).toNat)
            case atStart => exact ⟨q, Nat.le_refl _, rfl, Bel.refl _, (fun j i t h1 h2 _ => by have := (List.getElem?_eq_some_iff.1 h2).1; have := HQL.out; omega : ∀ (j i : Nat) (t : MSale), q ≤ j → I[j]? = some i → R[i]? = some t → x.close < t.close)⟩
            case round =>
              obtain ⟨p, hp, rfl, hbj, hup⟩ := hrel
              obtain ⟨wj, rfl⟩ : ∃ w', w' = wr := ⟨_, rfl⟩
              have HBJ := Lib.hid hbj
              clear hbj
              have hc := GB.cell (HB.out.trans HBJ.out) HC.out
              go_upto_region 7 with fail
              go_cut [65] (fun v0 wx => ∃ b : Bool, v0 = .bool b ∧ Bel wj wx ∧ Hid (DueGo R I x p b))
              case first => as_aux_lemma =>
                rcases Nat.eq_zero_or_pos p with h0 | h0
                · subst h0
                  have HBJ2 := Lib.hid HBJ.out
                  clear hup
                  go_wp2_with fail
                  go_quiet (fail)
                  go_wp2_with fail
                  go_meet
                  exact ⟨false, rfl, (by exact ⟨rfl, rfl, rfl, Nat.le_refl _, fun _ _ => rfl⟩), (⟨fun _ => .inl rfl, fun h => by cases h⟩ : DueGo R I x 0 false)⟩
                · obtain ⟨p, rfl⟩ : ∃ p', p = p' + 1 := ⟨p - 1, by omega⟩
                  obtain ⟨bd, u, rfl, _, huk, hgu⟩ := (HSL5.out.stepB HBJ.out).at_ (k := p) (by omega)
                  obtain ⟨i0, hik⟩ : ∃ i0, I[p]? = some i0 := ⟨_, List.getElem?_eq_getElem (by rw [HQL.out]; omega)⟩
                  rw [i64s_get hik] at huk
                  injection huk with huk
                  subst huk
                  have hi0 := (HD.out.lt (List.mem_of_getElem? hik)).1
                  simp only [show Enc.n I64 = 1 from rfl, Nat.mul_one] at hgu
                  have fu := getI hgu
                  obtain ⟨ad2, s2, hA2, _, hs2, hg2⟩ := (HS.out.stepB (HB.out.trans HBJ.out)).at_ (k := i0) (by omega)
                  obtain ⟨t, ht, hst2⟩ := HRR.out.at_ hs2
                  injection hA2 with hA2
                  subst hA2
                  change get? GRef15Sale wj (ad.add (i0 * 9)) = some s2 at hg2
                  have f6 := cell_off (by omega) (GRef15Sale.at_close hg2)
                  rw [add_block] at f6
                  have e6 : s2.close = t.close := by obtain ⟨_, rfl, _⟩ := hst2; rfl
                  rw [e6] at f6
                  have f7 := GB.cell HBJ.out f3
                  have HT1 := Lib.hid ht; have HIK := Lib.hid hik
                  have hi1 : (0 : Int) ≤ (i0 : Int) := by omega
                  have hi2 : (i0 : Int) < (n : Int) := by omega
                  obtain ⟨p1, hp1⟩ : ∃ p1, p + 1 = p1 := ⟨_, rfl⟩
                  have HP1 := Lib.hid hp1
                  obtain ⟨r, hr⟩ : ∃ r, decide (x.close < t.close) = r := ⟨_, rfl⟩
                  have HR1 := Lib.hid hr
                  have HUP := Lib.hid hup
                  rw [hp1] at hp h0 ⊢
                  have e1 : IntKind.i64.wrap ((p1 : Int) - 1) = (p : Int) := by rw [IntWalk.i64_in _ (by omega)]; omega
                  have p2 : (0 : Int) ≤ (p : Int) := by omega
                  have p3 : (p : Int) < (q : Int) := by omega
                  have p4 : decide ((0 : Int) < (p1 : Int)) = true := decide_eq_true (by omega)
                  have p5 : decide (0 < p1) = true := decide_eq_true (by omega)
                  clear hgu hs2 hg2 hst2 ht hik e6 hup hp1 f3 f5
                  go_wp2_with fail
                  go_big_quiet (fail)
                  go_wp2_with fail
                  have hk1 := HP1.out
                  subst hk1
                  go_meet
                  refine ⟨r, rfl, (by exact ⟨rfl, rfl, rfl, Nat.le_refl _, fun _ _ => rfl⟩), (show DueGo R I x (p + 1) r from ⟨fun e => .inr ⟨i0, t, by rw [Nat.add_sub_cancel]; exact HIK.out, HT1.out, by have := of_decide_eq_false (HR1.out.trans e); omega⟩, fun e => ⟨h0, ?_⟩⟩)⟩
                  intro j i t' hj hi ht'
                  by_cases e2 : j = p
                  · subst e2; rw [HIK.out] at hi; injection hi with hi; subst hi
                    rw [HT1.out] at ht'; injection ht' with ht'; subst ht'
                    exact of_decide_eq_true (HR1.out.trans e)
                  · exact HUP.out.out j i t' (by omega) hi ht'
              case rest =>
                obtain ⟨b, rfl, hbx, hgo⟩ := hcut
                have HB0 := Lib.hid hgo.out; have HBX := Lib.hid (HBJ.out.trans hbx)
                clear hgo hbx
                cases b
                · have HDD := Lib.hid (HD.out.add HX.out HDB.out (by rw [HQL.out]; exact hp) (HB0.out.1 rfl) hup.out)
                  clear HB0 hup
                  go_wp2_with fail
                  have hpz0 : (0 : Int) ≤ (p : Int) := by omega
                  have hpzq : (p : Int) ≤ (q : Int) := by omega
                  have hpc : p ≤ c5 := by omega
                  have hlenI : (I.take p ++ k :: I.drop p).length = p + (1 + (q - p)) := by
                    have := HQL.out
                    rw [List.length_append, List.length_take, List.length_cons, List.length_drop]
                    omega
                  have hslc : Sl I64 wc wc.heap.size A5 q (i64s I) := HSL5.out.stepB HBX.out
                  have hpre := hslc.take hp
                  refine wp_region_G GB [11] GB.rf (by kernel_rfl) ?_
                  refine wpG_looks 4 12 [0,1,2,3,4,6,7,8] rfl GB.rf GB.tr (by kernel_rfl) (fun _ _ _ _ hd h => And.intro (hd ▸ And.left h) (And.right h)) rfl (by kernel_rfl) ?_
                  intro ι W hne CW
                  cases A5 with
                  | none =>
                    have hc50 := hA5 rfl
                    subst hc50
                    have hq0 : q = 0 := by omega
                    subst hq0
                    have hp0 : p = 0 := by omega
                    subst hp0
                    have hdrop : Sl I64 wc wc.heap.size none 0 ((i64s I).drop 0) := hslc
                    repeat (refine wpLooksG_step (fun K hK => ?_); go_simp; refine hK _ ?_; clear hK K)
                    refine wpLooksG_nil ?_
                    clear CW hne W ι
                    have hpre0 : Sl I64 wc wc.heap.size none 0 ((i64s I).take 0) := hpre
                    refine wpG_force 5 _ rfl (by kernel_rfl) rfl fun wa hwa K hK => ?_
                    go_simp
                    refine hK _ _ (fun _ => GB.al _ _) ?_
                    clear hK K
                    have hb1 : Bel wc (wa.alloc (.cells #[.int .i64 (k : Int)] 3)) := hwa.undrew.alloc _
                    have hnew : Sl I64 (wa.alloc (.cells #[.int .i64 (k : Int)] 3)) (wa.alloc (.cells #[.int .i64 (k : Int)] 3)).heap.size (some ⟨wa.heap.size, 0, none⟩) 1 [(⟨(k : Int)⟩ : I64)] := Sl.new_ rfl rfl rfl (by simp)
                    generalize wa.alloc (.cells #[.int .i64 (k : Int)] 3) = wb at hb1 hnew ⊢
                    refine wpG_force 9 _ rfl (by kernel_rfl) rfl fun wd hwd K hK => ?_
                    obtain ⟨A6, c6, we, hrun6, hsl6, hb6, _, _⟩ := gAppend_cut (P := Tryz.prog) ei134 (k := 1) (m := 0) (c2 := 0) (hnew.stepB hwd) (hdrop.stepB (hb1.trans hwd)) (by unfold maxLen; omega) (by omega) 134
                    replace hrun6 : (gAppend #[134, 134] 134 #[.slice (some ⟨wa.heap.size, 0, none⟩) 1 1, .slice none 0 0]).run Tryz.prog wd = .ok (.slice A6 1 c6) we := hrun6
                    go_simp
                    refine hK _ _ (fun _ => hb6) ?_
                    clear hK K hrun6
                    have hbe : Bel wc we := (hb1.trans hwd).trans hb6
                    refine wpG_force 10 _ rfl (by kernel_rfl) rfl fun wf hwf K hK => ?_
                    obtain ⟨A7, c7, wg, hrun7, hsl7, hb7, hc7, hm7⟩ := gAppend_cut (P := Tryz.prog) ei134 (k := 0) (m := 1) (c2 := c6) (hpre0.stepB (hbe.trans hwf)) (hsl6.stepB hwf) (by unfold maxLen; omega) (by omega) 134
                    replace hrun7 : (gAppend #[134, 134] 134 #[.slice none 0 0, .slice A6 1 c6]).run Tryz.prog wf = .ok (.slice A7 1 c7) wg := hrun7
                    go_simp
                    refine hK _ _ (fun _ => hb7) ?_
                    clear hK K hrun7
                    have hbg : Bel wc wg := (hbe.trans hwf).trans hb7
                    refine wpG_force 11 _ rfl (by kernel_rfl) rfl fun wh hwh K hK => ?_
                    go_simp
                    refine hK _ _ (fun h => absurd (by simp) h) ?_
                    clear hK K
                    refine wpG_end (by kernel_rfl) (fun wn hwn => ?_) _
                    have hbn : Bel wg wn := GB.tr _ _ _ hwh hwn
                    have HBN := Lib.hid ((HB.out.trans HBX.out).trans (hbg.trans hbn))
                    have HDI2 := Lib.hid (show DueIs wn (.slice A7 (1) c7) (I.take 0 ++ k :: I.drop 0) from ⟨A7, c7, by rw [hlenI], by rw [hlenI, i64s_ins]; exact hsl7.stepB hbn, by rw [hlenI]; exact hc7, hm7, fun e => by
                      obtain ⟨ad9, e9, _⟩ := hsl7.2 (by omega)
                      rw [e] at e9; cases e9⟩)
                    clear hbn hbg hbe hb1 hwn hwh hwf hwd hwa hsl7 hsl6 hnew hpre hpre0 hdrop
                    go_wp2_with fail
                    go_roundw
                    case rel => exact ⟨k + 1, _, by omega, by go_num, HDD.out, HDI2.out, HBN.out⟩
                    case measure => simp [intOf]; omega
                  | some ad5 =>
                    obtain ⟨A8, hA8, hdrop⟩ : ∃ A8 : Option Addr, (if c5 = p then some ad5 else some (ad5.add p)) = A8 ∧ Sl I64 wc wc.heap.size A8 (q - p) ((i64s I).drop p) := by
                      rcases Nat.lt_or_ge p q with h | h
                      · obtain ⟨ad, e, h9⟩ := hslc.drop h
                        injection e with e
                        subst e
                        exact ⟨_, (by rw [if_neg (by omega)]), by simpa [show Enc.n I64 = 1 from rfl] using h9⟩
                      · exact ⟨_, rfl, by rw [List.drop_of_length_le (by rw [i64s_len, HQL.out]; omega)]; exact ⟨by simp; omega, fun h9 => by omega⟩⟩
                    repeat (refine wpLooksG_step (fun K hK => ?_); go_simp; refine hK _ ?_; clear hK K)
                    refine wpLooksG_nil ?_
                    clear CW hne W ι
                    refine wpG_force 5 _ rfl (by kernel_rfl) rfl fun wa hwa K hK => ?_
                    go_simp
                    refine hK _ _ (fun _ => GB.al _ _) ?_
                    clear hK K
                    have hb1 : Bel wc (wa.alloc (.cells #[.int .i64 (k : Int)] 3)) := hwa.undrew.alloc _
                    have hnew : Sl I64 (wa.alloc (.cells #[.int .i64 (k : Int)] 3)) (wa.alloc (.cells #[.int .i64 (k : Int)] 3)).heap.size (some ⟨wa.heap.size, 0, none⟩) 1 [(⟨(k : Int)⟩ : I64)] := Sl.new_ rfl rfl rfl (by simp)
                    generalize wa.alloc (.cells #[.int .i64 (k : Int)] 3) = wb at hb1 hnew ⊢
                    refine wpG_force 9 _ rfl (by kernel_rfl) rfl fun wd hwd K hK => ?_
                    obtain ⟨A6, c6, we, hrun6, hsl6, hb6, _, _⟩ := gAppend_cut (P := Tryz.prog) ei134 (c2 := c5 - p) (hnew.stepB hwd) (hdrop.stepB (hb1.trans hwd)) (by unfold maxLen; omega) (by omega) 134
                    go_simp
                    refine hK _ _ (fun _ => hb6) ?_
                    clear hK K hrun6
                    have hbe : Bel wc we := (hb1.trans hwd).trans hb6
                    refine wpG_force 10 _ rfl (by kernel_rfl) rfl fun wf hwf K hK => ?_
                    obtain ⟨A7, c7, wg, hrun7, hsl7, hb7, hc7, hm7⟩ := gAppend_cut (P := Tryz.prog) ei134 (c2 := c6) (hpre.stepB (hbe.trans hwf)) (hsl6.stepB hwf) (by unfold maxLen; omega) (by omega) 134
                    go_simp
                    refine hK _ _ (fun _ => hb7) ?_
                    clear hK K hrun7
                    have hbg : Bel wc wg := (hbe.trans hwf).trans hb7
                    refine wpG_force 11 _ rfl (by kernel_rfl) rfl fun wh hwh K hK => ?_
                    go_simp
                    refine hK _ _ (fun h => absurd (by simp) h) ?_
                    clear hK K
                    refine wpG_end (by kernel_rfl) (fun wn hwn => ?_) _
                    have hbn : Bel wg wn := GB.tr _ _ _ hwh hwn
                    have HBN := Lib.hid ((HB.out.trans HBX.out).trans (hbg.trans hbn))
                    have HDI2 := Lib.hid (show DueIs wn (.slice A7 (p + (1 + (q - p))) c7) (I.take p ++ k :: I.drop p) from ⟨A7, c7, by rw [hlenI], by rw [hlenI, i64s_ins]; exact hsl7.stepB hbn, by rw [hlenI]; exact hc7, hm7, fun e => by
                      obtain ⟨ad9, e9, _⟩ := hsl7.2 (by omega)
                      rw [e] at e9; cases e9⟩)
                    clear hbn hbg hbe hb1 hwn hwh hwf hwd hwa hsl7 hsl6 hnew hpre hdrop
                    go_wp2_with fail
                    go_roundw
                    case rel => exact ⟨k + 1, _, by omega, by go_num, HDD.out, HDI2.out, HBN.out⟩
                    case measure => simp [intOf]; omega
                · obtain ⟨h0, hup2⟩ := HB0.out.2 rfl
                  have e1 : IntKind.i64.wrap ((p : Int) - 1) = ((p - 1 : Nat) : Int) := by rw [IntWalk.i64_in _ (by omega)]; omega
                  clear HB0 hup
                  go_wp2_with fail
                  refine ⟨⟨p - 1, by omega, by first | rfl | go_num, HBX.out, hup2⟩, ?_⟩
                  simp [intOf]; omega
        · have hskip := Lib.hid (HD.out.skip HX.out (by unfold dueB; rw [HSTT.out]; simp))
          clear hsl5 hc5 hm5
          go_wp2_with fail
          exact ⟨⟨k + 1, I, by omega, by go_num, hskip.out, H5.out, HB.out⟩, by simp [intOf]; omega⟩
      · obtain rfl : k = n := by omega
        have hn1 : ¬ (k : Int) < (k : Int) := by omega
        go_wp2_with fail
        go_meet
        exact ⟨I, HD.out, HDI.out, HB.out⟩
  case rest =>
    obtain ⟨I, hdue, hdi, hb⟩ := hcut
    obtain ⟨A5, c5, rfl, hsl5, hc5, hm5, hA5⟩ := hdi
    obtain ⟨q, hql⟩ : ∃ q, I.length = q := ⟨_, rfl⟩
    rw [hql] at hsl5 hc5 ⊢
    have hqm : q ≤ 1000000 := by
      have h1 := hdue.perm.length_eq
      rw [hql] at h1
      rw [h1]
      exact Nat.le_trans (List.length_filter_le _ _) (by rw [List.length_range]; omega)
    have HD := Lib.hid hdue; have HB := Lib.hid hb; have HSL5 := Lib.hid hsl5; have HQL := Lib.hid hql
    obtain ⟨v7, w7, hrun7, ho7, hg7, _⟩ := gAppend_S (P := Tryz.prog) ei82 (t := 82) (OwnS.nil (α := GRef15Sale) wc wc.heap.size 137) (c := c0) (HS.out.stepB hb) (by simp; unfold maxLen; omega) (by simp; omega) (Nat.le_refl _) 82
    have hb7 : Bel wc w7 := (Bel.refl wc).appS hg7 (OwnS.nil (α := GRef15Sale) wc wc.heap.size 137) (Nat.le_refl _)
    have hlen : ss.length = n := HS.out.1
    rw [List.nil_append] at ho7
    have hcc := GB.cell HB.out HC.out
    have q1 := GB.cell hb7 hcc
    have q2 := frozen_of_free (a := ⟨g, 0, none⟩) ((blkFree_keep (Below.block (hb.trans hb7) g HR.out.lt)).trans HFR.out)
    obtain ⟨A7, c7, hv7, hoa7, h7, h8⟩ := OwnS.ownA ho7
    subst hv7
    rw [hlen] at hrun7 h7
    clear hg7 hsl5 hdue hql
    go_upto_region 12 with fail
    have hlay : RHouseIs (w7.setCell ⟨g, 0, none⟩ (.slice A7 n c7)) g R := RHouseIs.lay (hd := ⟨A7, n, c7⟩) (HR.out.bel (hb.trans hb7)) (by have := hoa7.sl; rw [hlen] at this; exact this) h7 h8 (HRR.out.mono fun _ _ h => RSaleIs.bel (hb.trans hb7) h)
    have hch : Chg (fun q => q = g) w7 (w7.setCell ⟨g, 0, none⟩ (.slice A7 n c7)) := ⟨rfl, rfl, rfl, by simp, fun k _ hn => Below.heap_setCell _ _ _ _ hn⟩
    have hgl : g < wc.heap.size := Nat.lt_of_lt_of_le HR.out.lt hb.size
    have hoa8 : OwnA (w7.setCell ⟨g, 0, none⟩ (.slice A7 n c7)) wc.heap.size 137 A7 c7 ss := OwnS.chg hoa7 hch (fun k hk e => by
      have := (OwnS.lt hoa7 k hk).1
      omega)
    have hchw : Chg (fun q => q = g) w (w7.setCell ⟨g, 0, none⟩ (.slice A7 n c7)) := (Chg.of_bel (hb.trans hb7) _).tr hch
    have hcell : (w7.setCell ⟨g, 0, none⟩ (.slice A7 n c7)).cell? ⟨g, 0, none⟩ = some (.slice A7 n c7) := World.cell?_setCell_same w7 _ _ q1
    have hdue8 : Sl I64 (w7.setCell ⟨g, 0, none⟩ (.slice A7 n c7)) (w7.setCell ⟨g, 0, none⟩ (.slice A7 n c7)).heap.size A5 q (i64s I) := Odd.sl (S := fun k => k = g) (fun k e => by subst e; exact (HR.out.bel (hb.trans hb7)).odd) hch (HSL5.out.stepB hb7)
    clear hch q1 q2 hb7 hoa7 hrun7 hcc ho7
    generalize w7.setCell ⟨g, 0, none⟩ (.slice A7 n c7) = w8 at hlay hoa8 hchw hcell hdue8 ⊢
    have HSR8 := Lib.hid (show ∀ x ∈ R, x.bids.length ≤ 1000000 from HBI.out)
    have hz8 : w.heap.size ≤ w8.heap.size := hchw.size
    have hg8 : g < w8.heap.size := by have := hchw.size; have := HR.out.lt; omega
    have hf8 : blkFree w8 g = true := by obtain ⟨_, _, _, _, h9, _⟩ := hlay.cell; exact h9
    have hrr8 : R2 (RSaleIs w8) ss R := HRR.out.mono fun _ _ h => RSaleIs.odd (S := fun k => k = g) (fun k e => by subst e; exact HR.out.odd) hchw h
    have HLAY := Lib.hid hlay; have HOA := Lib.hid hoa8; have HCH := Lib.hid hchw; have HCE := Lib.hid hcell; have HDU := Lib.hid hdue8; have HRR8 := Lib.hid hrr8
    clear hlay hoa8 hchw hdue8 hrr8 hcell
    go_wp2_with fail
    go_loopw [8, 90] (fun v i wr => ∃ (k : Nat) (ssk : List GRef15Sale), k ≤ q ∧ i = .int .i64 k ∧ OwnS wr w8.heap.size 94 v ((byPlace R (I.take k)).map fun x => rr (endR x)) ∧ OwnA wr wc.heap.size 137 A7 c7 ssk ∧ ssk.length = n ∧ R2 (RSaleIs w) ssk (settleP R (I.take k)) ∧ Chg (fun z => ∃ ad, A7 = some ad ∧ z = ad.block) w8 wr) (fun _ i _ => q - (intOf i).toNat)
    case atStart => exact ⟨0, ss, Nat.zero_le _, rfl, OwnS.nil _ _ _, HOA.out, hlen, by rw [List.take_zero, settleP_nil]; exact HRR.out, Chg.refl _ _⟩
    case round =>
      obtain ⟨k, ssk, hk, rfl, hown, hoak, hlk, hrk, hck⟩ := hrel
      have HO := Lib.hid hown; have HOK := Lib.hid hoak; have HLK := Lib.hid hlk; have HRK := Lib.hid hrk; have HCK := Lib.hid hck
      clear hown hoak hlk hrk hck
      by_cases hlt : k < q
      · obtain ⟨i0, hik⟩ : ∃ i0, I[k]? = some i0 := ⟨_, List.getElem?_eq_getElem (by rw [HQL.out]; exact hlt)⟩
        obtain ⟨hi0, x, hx, _⟩ := HD.out.lt (List.mem_of_getElem? hik)
        have hfresh := settleP_fresh HD.out.nodup hik
        obtain ⟨s, hsk⟩ : ∃ s, ssk[i0]? = some s := ⟨_, List.getElem?_eq_getElem (by rw [HLK.out]; exact hi0)⟩
        obtain ⟨x', hx', hsx⟩ := HRK.out.at_ hsk
        rw [settleP_get hx, if_neg hfresh] at hx'
        injection hx' with hx'
        subst hx'
        obtain ⟨b7, rfl, hb71, hb72, hb73⟩ := OwnA.place HOK.out (by rw [HLK.out]; omega)
        obtain ⟨ad, s', e8, _, hs8k, hg⟩ := HOK.out.sl.at_ (k := i0) (by rw [HLK.out]; exact hi0)
        injection e8 with e8; subst e8
        rw [hsk] at hs8k; injection hs8k with hs8k; subst hs8k
        rw [addN, Nat.zero_add] at hg
        change get? GRef15Sale wr ⟨b7, i0 * 9, none⟩ = some s at hg
        have hgb7 : g ≠ b7 := by omega
        have hcr : wr.cell? ⟨g, 0, none⟩ = some (.slice (some ⟨b7, 0, none⟩) n c7) := HCK.out.cell HCE.out (fun ⟨ad, e, h⟩ => by injection e with e; subst e; exact hgb7 h)
        have hdr : Sl I64 wr wr.heap.size A5 q (i64s I) := Sl.chg HCK.out HDU.out (fun hn ad e => fun ⟨ad2, e2, h⟩ => by
          injection e2 with e2; subst e2
          have h9 := HSL5.out.block_lt hn e
          have : ad.block = b7 := h
          omega)
        obtain ⟨ad5, u, rfl, _, huk, hgu⟩ := hdr.at_ (k := k) hlt
        rw [i64s_get hik] at huk
        injection huk with huk
        subst huk
        simp only [show Enc.n I64 = 1 from rfl, Nat.mul_one] at hgu
        have fu := getI hgu
        have hk0 : (0 : Int) ≤ (k : Int) := by omega
        have hkq : (k : Int) < (q : Int) := by omega
        have hi1 : (0 : Int) ≤ (i0 : Int) := by omega
        have hi2 : (i0 : Int) < (n : Int) := by omega
        have hxb := HSR8.out x (List.mem_of_getElem? hx)
        have hcw : Chg (fun z => z = g) w wr := HCH.out.trans HCK.out (fun z ⟨ad, e, h⟩ => by
          injection e with e; subst e
          have : z = b7 := h
          have := HB.out.size
          right; omega)
        have hsx1 : RSaleIs w s x := hsx
        have hsx := RSaleIs.odd (S := fun k => k = g) (fun k e => by subst e; exact HR.out.odd) hcw hsx1
        have HSX1 := Lib.hid hsx1
        have HSX := Lib.hid hsx; have HX := Lib.hid hx; have HIK := Lib.hid hik; have HSK := Lib.hid hsk
        clear hdr hgu hsx hsx1 hcw hx hik hsk hfresh
        go_upto_region 16 with fail
        go_cut [10] (fun v wx => ∃ b10 : Nat, v = .pointer (some ⟨b10, 0, none⟩) ∧ wr.heap.size ≤ b10 ∧ get? GRef15Result wx ⟨b10, 0, none⟩ = some (rr (endR x)) ∧ Bel wr wx)
        case first => as_aux_lemma =>
          go_wp2_with fail
          refine wp_region_G GB [12] GB.rf (by kernel_rfl) ?_
          refine wpG_looks 3 13 [0,1,2,3,4,5,6,7,8,9] rfl GB.rf GB.tr (by kernel_rfl) (fun _ _ _ _ hd h => And.intro (hd ▸ And.left h) (And.right h)) rfl (by kernel_rfl) ?_
          intro ι W hne CW
          have g1 := fun z => (CW.out z).cell hcr
          have g2 := fun z => (CW.out z).cell fu
          have g3 := fun z => (CW.out z).get hg
          repeat (refine wpLooksG_step (fun K hK => ?_); go_simp; refine hK _ ?_; clear hK K)
          refine wpLooksG_nil ?_
          clear g1 g2 g3 CW hne W ι
          refine wpG_two 10 11 _ _ rfl rfl (by kernel_rfl) rfl rfl ?_ ?_
          · intro wa hwa K hK
            go_simp
            refine (rend_any s x wa (HSX.out.bel hwa.undrew) hxb).mono ?_
            rintro _ wb ⟨rfl, hbb⟩
            refine hK _ _ (fun _ => hbb) ?_
            clear hK K
            refine wpG_force 11 _ rfl (by kernel_rfl) rfl fun wd hwd K hK => ?_
            go_simp
            refine hK _ _ (fun _ => GB.al _ _) ?_
            clear hK K
            have hn1 := get?_new (w := wd) 94 (default : GRef15Result)
            have hf1 := blkFree_new (t := 94) (w := wd) (default : GRef15Result).enc.toArray wd.heap.size rfl
            have hbd : Bel wr (wd.alloc (.cells (default : GRef15Result).enc.toArray 94)) := ((hwa.undrew.trans hbb).trans hwd).alloc _
            have hle : wr.heap.size ≤ wd.heap.size := ((hwa.undrew.trans hbb).trans hwd : Bel wr wd).size
            have hlt9 : wd.heap.size < (wd.alloc (.cells (default : GRef15Result).enc.toArray 94)).heap.size := by simp
            generalize wd.alloc (.cells (default : GRef15Result).enc.toArray 94) = we at hn1 hf1 hbd hlt9 ⊢
            refine wpG_force 12 _ rfl (by kernel_rfl) rfl fun wf hwf K hK => ?_
            have hn2 := GB.get hwf hn1
            have hf2 := (blkFree_keep (Below.block hwf _ hlt9)).trans hf1
            have hput := get?_put (rr (endR x)) hn2
            have hbp : Bel wr (World.putCells wf ⟨wd.heap.size, 0, none⟩ (GRef15Result.enc (rr (endR x)))) := Below_putCells (a := ⟨wd.heap.size, 0, none⟩) (hbd.trans hwf) hle _
            go_simp
            refine hK _ _ (fun h => absurd (by simp) h) ?_
            clear hK K
            change get? GRef15Result (World.putCells wf ⟨wd.heap.size, 0, none⟩ (GRef15Result.enc (rr (endR x)))) _ = _ at hput
            generalize World.putCells wf ⟨wd.heap.size, 0, none⟩ (GRef15Result.enc (rr (endR x))) = wg at hput hbp ⊢
            refine wpG_end (by kernel_rfl) (fun wn hwn => ?_) _
            have H1 := Lib.hid (GB.get hwn hput); have H2 := Lib.hid (hbp.trans hwn)
            clear hput hbp hwn hn1 hf1 hn2 hf2 hbd
            go_wp2_with fail
            go_meet
            exact ⟨_, rfl, hle, H1.out, H2.out⟩
          · intro wa hwa K hK
            go_simp
            refine hK _ _ (fun _ => GB.al _ _) ?_
            clear hK K
            have hn1 := get?_new (w := wa) 94 (default : GRef15Result)
            have hf1 := blkFree_new (t := 94) (w := wa) (default : GRef15Result).enc.toArray wa.heap.size rfl
            have hbd : Bel wr (wa.alloc (.cells (default : GRef15Result).enc.toArray 94)) := hwa.undrew.alloc _
            have hle : wr.heap.size ≤ wa.heap.size := hwa.undrew.size
            have hlt9 : wa.heap.size < (wa.alloc (.cells (default : GRef15Result).enc.toArray 94)).heap.size := by simp
            generalize wa.alloc (.cells (default : GRef15Result).enc.toArray 94) = wb at hn1 hf1 hbd hlt9 ⊢
            refine wpG_force 10 _ rfl (by kernel_rfl) rfl fun wd hwd K hK => ?_
            go_simp
            refine (rend_any s x wd (HSX.out.bel (hbd.trans hwd)) hxb).mono ?_
            rintro _ we ⟨rfl, hbb⟩
            refine hK _ _ (fun _ => hbb) ?_
            clear hK K
            refine wpG_force 12 _ rfl (by kernel_rfl) rfl fun wf hwf K hK => ?_
            have hbf : GB wb wf := GB.tr _ _ _ (GB.tr _ _ _ hwd hbb) hwf
            have hn2 := GB.get hbf hn1
            have hf2 := (blkFree_keep (Below.block hbf _ hlt9)).trans hf1
            have hput := get?_put (rr (endR x)) hn2
            have hbp : Bel wr (World.putCells wf ⟨wa.heap.size, 0, none⟩ (GRef15Result.enc (rr (endR x)))) := Below_putCells (a := ⟨wa.heap.size, 0, none⟩) (hbd.trans hbf) hle _
            go_simp
            refine hK _ _ (fun h => absurd (by simp) h) ?_
            clear hK K
            change get? GRef15Result (World.putCells wf ⟨wa.heap.size, 0, none⟩ (GRef15Result.enc (rr (endR x)))) _ = _ at hput
            generalize World.putCells wf ⟨wa.heap.size, 0, none⟩ (GRef15Result.enc (rr (endR x))) = wg at hput hbp ⊢
            refine wpG_end (by kernel_rfl) (fun wn hwn => ?_) _
            have H1 := Lib.hid (GB.get hwn hput); have H2 := Lib.hid (hbp.trans hwn)
            clear hput hbp hwn hn1 hf1 hn2 hf2 hbd
            go_wp2_with fail
            go_meet
            exact ⟨_, rfl, hle, H1.out, H2.out⟩
        case rest =>
          obtain ⟨b10, rfl, hb10, hg10, hbx⟩ := hcut
          obtain ⟨wx, rfl⟩ : ∃ w', w' = wc := ⟨_, rfl⟩
          obtain ⟨res, hres⟩ : ∃ res, rr (endR x) = res := ⟨_, rfl⟩
          rw [hres] at hg10
          have HRES := Lib.hid hres
          clear hres
          have hlb : b7 < b10 := by omega
          have hcx := GB.cell hbx hcr
          have fux := GB.cell hbx fu
          have hokx : OwnA wx _ 137 (some ⟨b7, 0, none⟩) c7 ssk := OwnA.stepB HOK.out hbx
          have hgx := GB.get hbx hg
          have q5 : wx.cell? ⟨b7, i0 * 9 + 5, none⟩ = some (.bool s.settled) := by
            have := GRef15Sale.at_settled hgx
            rw [addN] at this
            exact this
          have hfx : blkFree wx b7 = true := (blkFree_keep (Below.block hbx b7 hb72)).trans hb73
          have hbs : wr.heap.size ≤ wx.heap.size := hbx.size
          have hadb : ad5.block ≠ b7 := by
            have h9 := HSL5.out.block_lt (by omega) rfl
            omega
          have HOKX := Lib.hid hokx; have HBX := Lib.hid hbx; have HG10 := Lib.hid hg10
          clear hcr fu hg hb73 hokx hbx
          go_wp2_with fail
          refine wp_region_H GB (Chg (fun z => z = b7)) [17, 18, 19, 20, 21, 22] [] GB.rf (by kernel_rfl) ?_
          refine wpH_looks 6 0 [0,1,2,3,4,5,6,7,8,9,10,11,12,13,14,15,16] rfl GB.rf GB.tr (Chg.refl _) (fun _ _ _ h k => h.tr k) (fun _ _ h => Chg.of_bel h _) (by kernel_rfl) (fun _ _ _ _ hd h => And.intro (hd ▸ And.left h) (And.right h)) rfl (by kernel_rfl) ?_
          intro ι W hne CW
          have g1 : ∀ z, (W z).cell? ⟨g, 0, none⟩ = some (.slice (some ⟨b7, 0, none⟩) n c7) := fun z => (CW.out z).cell hcx hgb7
          have g2 : ∀ z, (W z).cell? (ad5.add k) = some (.int .i64 (i0 : Int)) := fun z => (CW.out z).cell fux (by rw [add_block]; exact hadb)
          have g3 : ∀ z, get? GRef15Result (W z) ⟨b10, 0, none⟩ = some (res) := fun z => (CW.out z).get HG10.out (by show ¬ b10 = b7; omega)
          repeat (refine wpLooksG_step (fun K hK => ?_); go_simp; refine hK _ ?_; clear hK K)
          refine wpLooksG_nil ?_
          clear g1 g2 g3 CW hne W ι
          refine wpH_force 17 _ rfl (by kernel_rfl) rfl fun wa hwa K hK => ?_
          go_simp
          refine hK _ _ (fun h => absurd (by simp) h) (fun _ => Chg.refl _ _) ?_
          clear hK K
          refine wpH_force 18 _ rfl (by kernel_rfl) rfl fun wb hwb K hK => ?_
          go_simp
          refine hK _ _ (fun h => absurd (by simp) h) (fun _ => Chg.refl _ _) ?_
          clear hK K
          refine wpH_force 19 _ rfl (by kernel_rfl) rfl fun wd hwd K hK => ?_
          have hbd : Bel wx wd := GB.undrew (GB.tr _ _ _ (GB.tr _ _ _ hwa hwb) hwd)
          have q6 := GB.cell hbd q5
          have q7 : blkFree wd b7 = true := (blkFree_keep (Below.block hbd b7 (by omega))).trans hfx
          have q8 := frozen_of_free (a := ⟨b7, i0 * 9 + 5, none⟩) q7
          obtain ⟨y1, ey1⟩ : ∃ y1 : GRef15Sale, y1 = { s with settled := true } := ⟨_, rfl⟩
          have hp1 := OwnA.poke (k := i0) (j := 5) (x := s) (y := y1) (v := .bool true) (OwnA.stepB HOKX.out hbd) HSK.out (by show 5 < 9; omega) (by rw [ey1]; rfl)
          change OwnA (wd.setCell ⟨b7, i0 * 9 + 5, none⟩ (.bool true)) _ _ _ _ _ at hp1
          have c1 : Chg (fun z => z = b7) wd (wd.setCell ⟨b7, i0 * 9 + 5, none⟩ (.bool true)) := ⟨rfl, rfl, rfl, by simp, fun k _ hn => Below.heap_setCell _ _ _ _ hn⟩
          have q9 : blkFree (wd.setCell ⟨b7, i0 * 9 + 5, none⟩ (.bool true)) b7 = true := by rw [blkFree_setCell]; exact q7
          have c2 : Chg (fun z => z = b7) wx (wd.setCell ⟨b7, i0 * 9 + 5, none⟩ (.bool true)) := (Chg.of_bel hbd _).tr c1
          go_simp
          refine hK _ _ (fun h => absurd (by simp) h) (fun _ => c1) ?_
          clear hK K q6 q8 c1
          generalize wd.setCell ⟨b7, i0 * 9 + 5, none⟩ (.bool true) = we at hp1 q9 c2 ⊢
          refine wpH_force 20 _ rfl (by kernel_rfl) rfl fun wf hwf K hK => ?_
          go_simp
          refine hK _ _ (fun h => absurd (by simp) h) (fun _ => Chg.refl _ _) ?_
          clear hK K
          refine wpH_force 21 _ rfl (by kernel_rfl) rfl fun wg hwg K hK => ?_
          go_simp
          refine hK _ _ (fun h => absurd (by simp) h) (fun _ => Chg.refl _ _) ?_
          clear hK K
          refine wpH_force 22 _ rfl (by kernel_rfl) rfl fun wh hwh K hK => ?_
          have heh : Bel we wh := GB.tr _ _ _ (GB.tr _ _ _ hwf hwg) hwh
          have hp2 := OwnA.stepB hp1 heh
          have hsk1 : (ssk.set i0 y1)[i0]? = some y1 := by rw [List.getElem?_set_self (by rw [HLK.out]; exact hi0)]
          have q10 : blkFree wh b7 = true := (blkFree_keep (Below.block heh b7 (by have := c2.size; omega))).trans q9
          have q11 : get? GRef15Result wh ⟨b7, i0 * 9 + 6, none⟩ = some y1.r := own_r hp2 hsk1
          have hp3 := own_res hp2 hsk1 (res)
          have c3 : Chg (fun z => z = b7) wh (World.putCells wh ⟨b7, i0 * 9 + 6, none⟩ (GRef15Result.enc (res))) := chgPut (a := ⟨b7, i0 * 9 + 6, none⟩) _
          have c4 : Chg (fun z => z = b7) wx (World.putCells wh ⟨b7, i0 * 9 + 6, none⟩ (GRef15Result.enc (res))) := (c2.tr (Chg.of_bel heh _)).tr c3
          go_simp
          refine hK _ _ (fun h => absurd (by simp) h) (fun _ => c3) ?_
          clear hK K q9 q10 q11 c2 c3 hp2 hp1
          generalize World.putCells wh ⟨b7, i0 * 9 + 6, none⟩ (GRef15Result.enc (res)) = wi at hp3 c4 ⊢
          refine wpH_end (by kernel_rfl) (fun wn hwn => ?_) _
          have hpn := OwnA.stepB hp3 hwn
          have c5 : Chg (fun z => z = b7) wx wn := c4.tr (Chg.of_bel hwn _)
          have hrn := c5.get HG10.out (by show ¬ b10 = b7; omega)
          rw [List.set_set] at hpn
          have ey2 : ({ y1 with r := res } : GRef15Sale) = refDone s res := by rw [ey1]; rfl
          rw [ey2] at hpn
          have hon : OwnS wn w8.heap.size 94 u8 ((byPlace R (I.take k)).map fun x => rr (endR x)) := OwnS.chg (HO.out.step HBX.out) c5 (fun z hz e => by
            have := (HO.out.lt z hz).1
            have h9 := (HOA.out.lt b7 rfl).2
            omega)
          have e3 : ((byPlace R (I.take k)).map fun x => rr (endR x)) ++ [res] = (byPlace R (I.take (k + 1))).map fun x => rr (endR x) := by
            have : byPlace R (I.take (k + 1)) = byPlace R (I.take k) ++ [x] := by
              unfold byPlace
              rw [List.take_add_one, HIK.out, List.filterMap_append]
              simp [HX.out]
            rw [this, List.map_append, ← HRES.out]; rfl
          have hln : ((byPlace R (I.take k)).map fun x => rr (endR x)).length ≤ 1000000 := by
            rw [List.length_map]
            refine Nat.le_trans (List.length_filterMap_le _ _) ?_
            rw [List.length_take]
            have := HD.out.perm.length_eq
            have h2 : I.length ≤ n := by
              rw [this]
              exact Nat.le_trans (List.length_filter_le _ _) (by rw [List.length_range]; exact Nat.le_refl _)
            omega
          obtain ⟨v4, w4, hrun4, ho4, hg4, _⟩ := gAppend_S (P := Tryz.prog) ei91 (t := 91) (hon.alloc (.cells (GRef15Result.enc res).toArray 94)) (c := 1) (m := 1) (A := some ⟨wn.heap.size, 0, none⟩) (Sl.new_ (B := wn.heap.size + 1) (xs := [res]) (by simp; rfl) rfl rfl (by omega)) (Nat.le_trans (Nat.add_le_add_right hln 1) (by unfold maxLen; omega)) (Nat.le_trans (Nat.mul_le_mul_right _ (Nat.add_le_add_right hln 1)) (by omega)) (by have := HCK.out.size; have := HBX.out.size; have := c5.size; simp only [World.size_alloc]; omega) 91
          rw [e3] at ho4
          have hb8 : b7 < w8.heap.size := (HOA.out.lt b7 rfl).2
          have hu8 : u8.ownBlock ≠ some b7 := fun e => by
            have := (HO.out.lt b7 e).1
            omega
          have hp4 : OwnA w4 wc.heap.size 137 (some ⟨b7, 0, none⟩) c7 (ssk.set i0 (refDone s res)) := OwnS.kept (OwnS.alloc hpn _) hg4 (.inr (fun e => hu8 e.symm))
          have hc8 : Chg (fun z => ∃ ad : Addr, some ⟨b7, 0, none⟩ = some ad ∧ z = ad.block) w8 w4 :=
            (((HCK.out.tr (Chg.of_bel HBX.out _)).tr (c5.sub fun z e => ⟨⟨b7, 0, none⟩, rfl, e⟩)).tr (Chg.of_bel ((Bel.refl wn).alloc (.cells (GRef15Result.enc res).toArray 94)) _)).trans (Chg.of_grown (S := fun z => u8.ownBlock = some z) hg4 fun z e => e) (fun z hz => .inr (HO.out.lt z hz).1)
          have hrk : R2 (RSaleIs w) (ssk.set i0 (refDone s res)) (settleP R (I.take (k + 1))) := by
            rw [← settleP_step HIK.out HX.out]
            refine R2.set ?_ HRK.out i0
            obtain ⟨hd, rfl, h2, h3⟩ := HSX1.out
            exact ⟨hd, by rw [← HRES.out]; rfl, h2, h3⟩
          have HO4 := Lib.hid ho4; have HP4 := Lib.hid hp4; have HC8 := Lib.hid hc8; have HRK4 := Lib.hid hrk
          have hlk4 : (ssk.set i0 (refDone s res)).length = n := by rw [List.length_set, HLK.out]
          clear ho4 hp4 hc8 hrk hpn hon hg4 hln e3 c5 c4 hp3 hwn ey2
          go_wp2_with fail
          exact ⟨⟨k + 1, _, by omega, by go_num, HO4.out, HP4.out, hlk4, HRK4.out, HC8.out⟩, by simp [intOf]; omega⟩
      · obtain rfl : k = q := by omega
        have hn1 : ¬ (k : Int) < (k : Int) := by omega
        go_wp2_with fail
        go_ret
        have hI : I.take k = I := List.take_of_length_le (by rw [HQL.out]; exact Nat.le_refl _)
        have hD2 : DueL R now R.length I := by rw [HNL.out]; exact HD.out
        have hch : Chg (fun z => z = g) w wr := HCH.out.trans HCK.out (fun z ⟨ad, e, h⟩ => by
          subst e
          have := (HOA.out.lt ad.block rfl).1
          have := HB.out.size
          right; omega)
        refine ⟨byPlace R I, _, rfl, hD2.perm_due, hD2.sorted HT.out, ?_, ?_, hch⟩
        · have := HO.out
          rw [hI] at this
          exact this.mono hz8
        · obtain ⟨hd, ss9, hb9, _, _, _, _⟩ := HLAY.out
          have hcell9 : (⟨A7, n, c7⟩ : Hdr) = hd := by
            have h9 := HCE.out
            unfold World.cell? at h9
            simp only [hb9] at h9
            obtain ⟨a, b, c⟩ := hd
            have h9' : some (Hdr.val ⟨a, b, c⟩) = some (.slice A7 n c7) := h9
            injection h9' with h9'
            unfold Hdr.val at h9'
            injection h9' with e1 e2 e3
            subst e1; subst e2; subst e3; rfl
          subst hcell9
          have hgne : ¬ (∃ ad, A7 = some ad ∧ g = ad.block) := fun ⟨ad, e, h⟩ => by
            subst e
            have := (HOA.out.lt ad.block rfl).1
            omega
          refine ⟨⟨A7, n, c7⟩, ssk, (HCK.out.block g hg8 hgne).trans hb9, by have := HOK.out.sl; rw [HLK.out] at this; exact this, h7, h8, ?_⟩
          have hr9 := HRK.out
          rw [hI, hD2.settled] at hr9
          exact hr9.mono fun _ _ h => RSaleIs.odd (S := fun z => z = g) (fun z e => by subst e; exact HR.out.odd) hch h
end Go.Proofs.YteockodnfempfaaGreatDoor
