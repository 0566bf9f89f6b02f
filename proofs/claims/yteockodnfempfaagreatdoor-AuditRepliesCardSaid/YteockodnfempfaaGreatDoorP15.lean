/- The document's words, numbers and told errors. Conditions: those named in each theorem. -/
import Derived.Test.YteockodnfempfaaGreatDoorP14
import Derived.Test.YteockodnfempfaaGreatDoorP7
import Derived.Test.YteockodnfempfaaGreatDoorP8
import Derived.Test.YteockodnfempfaaGreatDoorP9
import Derived.Test.YteockodnfempfaaGreatDoorP11
import Derived.Lib.SplitLaws
/- The document's registry in memory; what its calls compute. Conditions: those named in each theorem. -/
namespace Go.Proofs.YteockodnfempfaaGreatDoor
open Go Go.RowKit Go.Gv Go.Sort

/-- A registry's items, and the same in another order. -/
structure RTwin (Q L : MReg) : Prop where
  perm : L.Perm Q
  nodup : (Q.map (·.1)).Nodup
theorem RTwin.nil : RTwin [] [] := ⟨.refl _, by simp⟩
section
variable {Q L : MReg}
theorem RTwin.len (h : RTwin Q L) : L.length = Q.length := h.perm.length_eq
theorem RTwin.nodupL (h : RTwin Q L) : (L.map (·.1)).Nodup := (h.perm.map (·.1)).nodup_iff.2 h.nodup
theorem RTwin.get (h : RTwin Q L) (k : ByteArray) : mget L k = mget Q k := by
  cases hq : mget Q k with
  | some v => exact (mgetMem h.nodupL).2 (h.perm.mem_iff.2 ((mgetMem h.nodup).1 hq))
  | none =>
    rw [mget_none] at hq ⊢
    exact fun hk => hq ((h.perm.map (·.1)).mem_iff.1 hk)
theorem RTwin.ins (h : RTwin Q L) {k : ByteArray} {v : Int} (hnone : (mget Q k).isSome = false) (i : Nat) : RTwin (mset Q k v) (L.take i ++ (k, v) :: L.drop i) := by
  have hk := mget_none.1 (by simpa using hnone : mget Q k = none)
  have hm : mset Q k v = Q ++ [(k, v)] := by unfold mset; rw [if_neg hk]
  refine ⟨?_, mset_nodup h.nodup _ _⟩
  rw [hm]
  refine List.Perm.trans List.perm_middle ?_
  rw [List.take_append_drop]
  exact (List.Perm.cons _ h.perm).trans (List.perm_append_comm (l₁ := [_]))
theorem RTwin.del (h : RTwin Q L) (k : ByteArray) : RTwin (mdel Q k) (mdel L k) := by
  unfold mdel
  exact ⟨h.perm.filter _, h.nodup.sublist (List.filter_sublist.map _)⟩
end
def ow (p : ByteArray × Int) : GRef15Owned := ⟨p.1, p.2⟩
/-- Block g is the variable of a registry of the document's, over the items L. -/
def RRegIs (w : World) (g : Nat) (L : MReg) : Prop :=
  ∃ h : Hdr, w.heap[g]? = some (.cells #[h.val] 88 (0, 0)) ∧ Sl GRef15Owned w w.heap.size h.a h.len (L.map ow) ∧ h.len ≤ h.cap ∧ h.cap ≤ maxLen
instance : FirstOk GRef15Owned := ⟨fun _ => .inr ⟨_, rfl⟩⟩
/-- Nothing that the document's app holds lies in block k. -/
structure Hole (w : World) (k : Nat) : Prop where
  bid : ∀ u (x : GRef15Bid), get? GRef15Bid w u = some x → u.block ≠ k
  sale : ∀ u (x : GRef15Sale), get? GRef15Sale w u = some x → u.block ≠ k
  owned : ∀ u (x : GRef15Owned), get? GRef15Owned w u = some x → u.block ≠ k
theorem Odd.hole {w : World} {k : Nat} (h : Odd w k) : Hole w k := ⟨fun _ _ hx => h.get hx, fun _ _ hx => h.get hx, fun _ _ hx => h.get hx⟩
theorem sl_hole {α : Type} [Enc α] {w w' : World} {S : Nat → Prop} (hO : ∀ k, S k → ∀ u (x : α), get? α w u = some x → u.block ≠ k) (hc : Chg S w w') {A : Option Addr} {n : Nat} {xs : List α} (h : Sl α w w.heap.size A n xs) : Sl α w' w'.heap.size A n xs := by
  refine ⟨h.1, fun hn => ?_⟩
  obtain ⟨ad, e, hb, hg⟩ := h.2 hn
  exact ⟨ad, e, Nat.lt_of_lt_of_le hb hc.size, fun j x hx => hc.get (hg j x hx) (fun hs => hO _ hs _ _ (hg j x hx) rfl)⟩
section
variable {w w' : World} {g : Nat} {L : MReg} {R : List MSale} {S : Nat → Prop}
theorem RHouseIs.hole (h : RHouseIs w g R) (hO : ∀ k, S k → Hole w k) (hc : Chg S w w') (hne : ¬ S g) : RHouseIs w' g R := by
  have hl := h.lt
  obtain ⟨hd, ss, hb, h1, h2, h3, h4⟩ := h
  refine ⟨hd, ss, (hc.block g hl hne).trans hb, sl_hole (fun k hk => (hO k hk).sale) hc h1, h2, h3, h4.mono fun _ _ h => ?_⟩
  obtain ⟨hd, h1, h2, h3⟩ := h
  exact ⟨hd, h1, sl_hole (fun k hk => (hO k hk).bid) hc h2, h3⟩
theorem RRegIs.lt (h : RRegIs w g L) : g < w.heap.size := by
  obtain ⟨_, hb, _⟩ := h
  exact lt_of_some hb
theorem RRegIs.hole (h : RRegIs w g L) (hO : ∀ k, S k → Hole w k) (hc : Chg S w w') (hne : ¬ S g) : RRegIs w' g L := by
  have hl := h.lt
  obtain ⟨hd, hb, h1, h2, h3⟩ := h
  exact ⟨hd, (hc.block g hl hne).trans hb, sl_hole (fun k hk => (hO k hk).owned) hc h1, h2, h3⟩
theorem RRegIs.bel (h : RRegIs w g L) (hb : Bel w w') : RRegIs w' g L := by
  have hl := h.lt
  obtain ⟨hd, hb1, h1, h2, h3⟩ := h
  exact ⟨hd, (Below.block hb g hl).trans hb1, h1.stepB hb, h2, h3⟩
theorem RRegIs.odd (h : RRegIs w g L) : Odd w g := by
  obtain ⟨hd, hb, _⟩ := h
  intro p v hp hc
  have hno : (∀ K n, hd.val ≠ .int K n) ∧ ∀ s, hd.val ≠ .string s := ⟨fun K n e => (by unfold Hdr.val at e; cases e), fun s e => (by unfold Hdr.val at e; cases e)⟩
  have hv : v = hd.val := by
    unfold World.cell? at hc
    rw [hp, hb] at hc
    simp at hc
    grind
  subst hv
  exact hno
/-- A new list is laid into the registry's variable. -/
theorem RRegIs.lay {L' : MReg} {hd : Hdr} (h : RRegIs w g L) (h1 : Sl GRef15Owned w w.heap.size hd.a hd.len (L'.map ow)) (h2 : hd.len ≤ hd.cap) (h3 : hd.cap ≤ maxLen) : RRegIs (w.setCell ⟨g, 0, none⟩ hd.val) g L' := by
  have hO : ∀ k, k = g → Odd w k := fun k e => by subst e; exact h.odd
  have hc : Chg (fun q => q = g) w (w.setCell ⟨g, 0, none⟩ hd.val) := ⟨rfl, rfl, rfl, by simp, fun k _ hn => Below.heap_setCell _ _ _ _ hn⟩
  obtain ⟨hd0, hb, _⟩ := h
  refine ⟨hd, ?_, Odd.sl hO hc h1, h2, h3⟩
  rw [heap_setCell_same w g 0 _ _ _ hb]
  rfl
theorem RRegIs.cell (h : RRegIs w g L) : ∃ A c, w.cell? ⟨g, 0, none⟩ = some (.slice A L.length c) ∧ blkFree w g = true ∧ Sl GRef15Owned w w.heap.size A L.length (L.map ow) ∧ L.length ≤ c ∧ c ≤ maxLen := by
  obtain ⟨⟨A, n, c⟩, hb, h1, h2, h3⟩ := h
  have hl : n = L.length := by have := h1.1; simpa using this.symm
  subst hl
  refine ⟨A, c, ?_, ?_, h1, h2, h3⟩
  · unfold World.cell?
    simp only [hb]
    rfl
  · unfold blkFree
    rw [hb]; rfl
end
theorem mget_at {L : MReg} {k : Nat} {p : ByteArray × Int} (hn : (L.map (·.1)).Nodup) (h : L[k]? = some p) : mget L p.1 = some p.2 := (mgetMem hn).2 (List.mem_of_getElem? h)
set_option maxRecDepth 100000 in
set_option maxHeartbeats 1000000 in
theorem rowner_any (g : Nat) (Q L : MReg) (item : ByteArray) (w : World) (hR : RRegIs w g L) (hT : RTwin Q L) (hl : L.length ≤ 1000000) :
    Calls Tryz.prog 58 #[.pointer (some ⟨g, 0, none⟩), .string item] w fun e w' => e = .returned (.tuple #[.int .i64 ((mget Q item).getD 0), .bool (mget Q item).isSome]) ∧ w' = w := by
  obtain ⟨A, c, hc, _, hs, _, _⟩ := hR.cell
  obtain ⟨n, hn⟩ : ∃ n, L.length = n := ⟨_, rfl⟩
  rw [hn] at hc hl hs
  have HS := Lib.hid hs; have HT := Lib.hid hT; have HN := Lib.hid hn
  clear hR hs hT hn
  rw [← HT.out.get]
  go_enter Tryz.func58, Tryz.ntmps58
  go_wp2_with fail
  go_loopw [12] (fun i wr => ∃ k : Nat, k ≤ n ∧ i = .int .i64 k ∧ wr = w ∧ Hid (∀ (j : Nat) (s : ByteArray × Int), j < k → L[j]? = some s → s.1 ≠ item)) (fun i _ => n - (intOf i).toNat)
  case atStart => exact ⟨0, Nat.zero_le _, rfl, rfl, (fun j s h => absurd h (by omega) : ∀ (j : Nat) (s : ByteArray × Int), j < 0 → L[j]? = some s → s.1 ≠ item)⟩
  case round =>
    obtain ⟨k, hk, rfl, rfl, hno⟩ := hrel
    by_cases hlt : k < n
    · obtain ⟨ad, s, hA, _, hsk, hg⟩ := HS.out.at_ (k := k) hlt
      obtain ⟨x, hx⟩ : ∃ x, L[k]? = some x := ⟨_, List.getElem?_eq_getElem (by rw [HN.out]; exact hlt)⟩
      rw [List.getElem?_map, hx] at hsk
      injection hsk with hsk
      subst hsk
      change get? GRef15Owned wr (ad.add (k * 2)) = some (ow x) at hg
      have f1 := GRef15Owned.at_item hg
      have f2 := cell_off (by omega) (GRef15Owned.at_client hg)
      rw [Addr.add_zero'] at f1
      simp only [add_block] at f2
      obtain ⟨xk, xv⟩ := x
      simp only [ow] at f1 f2
      rw [hA] at hc
      have HX := Lib.hid hx
      have hlt2 : (k : Int) < (n : Int) := by omega
      have hk0 : (0 : Int) ≤ (k : Int) := by omega
      clear hg hx hA
      by_cases he : xk = item
      · subst he
        have HM := Lib.hid (mget_at HT.out.nodupL HX.out)
        go_wp2_with fail
        go_ret2
        exact ⟨by rw [HM.out]; rfl, rfl⟩
      · have hq : (xk.toList == item.toList) = false := by simpa using fun e => he (bytes_eq e)
        go_wp2_with fail
        refine ⟨⟨k + 1, by omega, by go_num, trivial, (fun j s h1 h2 => by
          by_cases e : j = k
          · subst e; rw [HX.out] at h2; injection h2 with h2; subst h2; exact he
          · exact hno.out j s (by omega) h2 : ∀ (j : Nat) (s : ByteArray × Int), j < k + 1 → L[j]? = some s → s.1 ≠ item)⟩, by simp [intOf]; omega⟩
    · have hn1 : ¬ (k : Int) < (n : Int) := by omega
      have HM := Lib.hid (show mget L item = none by
        rw [mget_none]
        intro hm
        obtain ⟨s, hs, e⟩ := List.mem_map.1 hm
        obtain ⟨j, hj⟩ := List.getElem?_of_mem hs
        have := (List.getElem?_eq_some_iff.1 hj).1
        exact hno.out j s (by have := HN.out; omega) hj e)
      go_wp2_with fail
      go_ret2
      exact ⟨by rw [HM.out]; rfl, rfl⟩
set_option maxRecDepth 100000 in
set_option maxHeartbeats 1000000 in
theorem rmay_is (b : Bool) (item : ByteArray) (client : Int) (w : World) (hb : mayB item client = b) (hn : item.size ≤ maxLen) :
    Calls Tryz.prog 81 #[.string item, .int .i64 client] w fun e w' => e = .returned (.bool b) ∧ w' = w := by
  subst hb
  obtain ⟨nb, hnb⟩ : ∃ b, nameB item = b := ⟨_, rfl⟩
  have HNB := Lib.hid hnb
  cases nb
  · have HM := Lib.hid (show mayB item client = false by unfold mayB; rw [HNB.out]; rfl)
    clear hnb
    go_enter Tryz.func81, Tryz.ntmps81
    go_wp2_with fail
    refine (letters_is false item _ HNB.out hn).mono ?_
    rintro _ w1 ⟨rfl, rfl⟩
    go_wp2_with fail
    go_ret
    exact ⟨by rw [HM.out]; rfl, rfl⟩
  · have HM := Lib.hid (show mayB item client = (decide (0 ≤ client) && decide (client < 100)) by unfold mayB; rw [HNB.out]; rfl)
    clear hnb
    by_cases h0 : 0 ≤ client
    · by_cases h1 : client < 100
      · go_enter Tryz.func81, Tryz.ntmps81
        go_wp2_with fail
        refine (letters_is true item _ HNB.out hn).mono ?_
        rintro _ w1 ⟨rfl, rfl⟩
        go_wp2_with fail
        go_ret
        exact ⟨ret_bool (by rw [HM.out]; simp; omega), rfl⟩
      · go_enter Tryz.func81, Tryz.ntmps81
        go_wp2_with fail
        refine (letters_is true item _ HNB.out hn).mono ?_
        rintro _ w1 ⟨rfl, rfl⟩
        go_wp2_with fail
        go_ret
        exact ⟨ret_bool (by rw [HM.out]; simp; omega), rfl⟩
    · go_enter Tryz.func81, Tryz.ntmps81
      go_wp2_with fail
      refine (letters_is true item _ HNB.out hn).mono ?_
      rintro _ w1 ⟨rfl, rfl⟩
      go_wp2_with fail
      go_ret
      exact ⟨ret_bool (by rw [HM.out]; simp; omega), rfl⟩
end Go.Proofs.YteockodnfempfaaGreatDoor
/- The document's registry: Reserve. Conditions: those named in each theorem. -/
namespace Go.Proofs.YteockodnfempfaaGreatDoor
open Go Go.RowKit Go.Gv Go.Sort

/-- What a call of the document's registry leaves. -/
def RqLeft (w : World) (g : Nat) (Q' : MReg) (w' : World) : Prop := ∃ L', RTwin Q' L' ∧ RRegIs w' g L' ∧ Chg (fun q => q = g) w w'
theorem RqLeft.same {w w' : World} {g : Nat} {Q L : MReg} (hT : RTwin Q L) (hR : RRegIs w g L) (hb : Bel w w') : RqLeft w g Q w' := ⟨L, hT, hR.bel hb, Chg.of_bel hb _⟩
theorem rreserve_no {w w' : World} {g : Nat} {Q L : MReg} {item : ByteArray} {client c : Int} (hT : RTwin Q L) (hR : RRegIs w g L) (hb : Bel w w') (hc : reserveR Q item client = c) (h0 : c ≠ 0) :
    Ending.returned (.int .i64 c) = Ending.returned (.int .i64 (reserveR Q item client)) ∧ RqLeft w g (reserveQ Q item client) w' := by
  subst hc
  refine ⟨rfl, ?_⟩
  unfold reserveQ
  rw [if_neg h0]
  exact RqLeft.same hT hR hb
def GoOn (k : Nat) (b : Bool) : Prop := b = true → 0 < k
set_option maxRecDepth 100000 in
set_option maxHeartbeats 4000000 in
theorem rreserve_any (g : Nat) (Q L : MReg) (item : ByteArray) (client : Int) (w : World) (hR : RRegIs w g L) (hT : RTwin Q L) (hn : item.size ≤ maxLen) (hl : L.length ≤ 1000000) :
    Calls Tryz.prog 56 #[.pointer (some ⟨g, 0, none⟩), .string item, .int .i64 client] w fun e w' => e = .returned (.int .i64 (reserveR Q item client)) ∧ RqLeft w g (reserveQ Q item client) w' := by
  have HR := Lib.hid hR; have HT := Lib.hid hT
  have HF := Lib.hid (rowner_any g Q L item w hR hT hl)
  obtain ⟨A0, c0, hc, hfree, hs, hk7, h8⟩ := hR.cell
  obtain ⟨n, hnl⟩ : ∃ n, L.length = n := ⟨_, rfl⟩
  have hhl : Q.length = n := by rw [← hT.len, hnl]
  rw [hnl] at hc hs hl hk7
  have HS := Lib.hid hs; have HNL := Lib.hid hnl; have HHL := Lib.hid hhl; have HFR := Lib.hid hfree
  obtain ⟨mb, hmb⟩ : ∃ b, mayB item client = b := ⟨_, rfl⟩
  have HMB := Lib.hid hmb
  obtain ⟨z0, hz0⟩ : ∃ z, (mget Q item).getD 0 = z := ⟨_, rfl⟩
  obtain ⟨is, his⟩ : ∃ b, (mget Q item).isSome = b := ⟨_, rfl⟩
  have HIS := Lib.hid his
  rw [hz0, his] at HF
  clear hR hT hs hnl hhl hfree hmb hz0 his
  cases mb
  · have HO := Lib.hid (show reserveR Q item client = 1 by unfold reserveR; rw [HMB.out]; rfl)
    go_enter Tryz.func56, Tryz.ntmps56
    go_wp2_with fail
    refine (rmay_is false item client _ HMB.out hn).mono ?_
    rintro _ w1 ⟨rfl, h5⟩
    obtain rfl : w = w1 := h5.symm
    go_wp2_with fail
    go_ret
    exact rreserve_no HT.out HR.out (Bel.refl _) HO.out (by decide)
  · go_enter Tryz.func56, Tryz.ntmps56
    go_wp2_with fail
    refine (rmay_is true item client _ HMB.out hn).mono ?_
    rintro _ w1 ⟨rfl, h5⟩
    obtain rfl : w = w1 := h5.symm
    go_wp2_with fail
    refine HF.out.mono ?_
    rintro _ w1 ⟨rfl, h5⟩
    obtain rfl : w = w1 := h5.symm
    cases is
    · by_cases h64 : 64 ≤ n
      · have HO := Lib.hid (show reserveR Q item client = 7 by unfold reserveR; rw [HMB.out, HIS.out, if_pos rfl, if_neg (by decide), if_pos (by rw [HHL.out]; exact h64)])
        have h64' : (64 : Int) ≤ (n : Int) := by omega
        go_wp2_with fail
        go_ret
        exact rreserve_no HT.out HR.out (Bel.refl _) HO.out (by decide)
      · have HO := Lib.hid (show reserveR Q item client = 0 by unfold reserveR; rw [HMB.out, HIS.out, if_pos rfl, if_neg (by decide), if_neg (by rw [HHL.out]; exact h64)])
        have h64' : ¬ (64 : Int) ≤ (n : Int) := by omega
        go_wp2_with fail
        go_loopw [9] (fun vk wr => ∃ k : Nat, k ≤ n ∧ vk = .int .i64 k ∧ wr = w) (fun vk _ => (intOf vk).toNat)
        case atStart => exact ⟨n, Nat.le_refl _, rfl, rfl⟩
        case round =>
          obtain ⟨k, hk, rfl, rfl⟩ := hrel
          go_upto_region 9 with fail
          go_cut [46] (fun v0 wx => ∃ b : Bool, v0 = .bool b ∧ wx = wr ∧ GoOn k b)
          case first => as_aux_lemma =>
            rcases Nat.eq_zero_or_pos k with h0 | h0
            · subst h0
              go_wp2_with fail
              go_meet
              exact ⟨false, rfl, by first | rfl | trivial, fun h => by cases h⟩
            · obtain ⟨k, rfl⟩ : ∃ k', k = k' + 1 := ⟨k - 1, by omega⟩
              obtain ⟨ad, s, hA, _, hsk, hg⟩ := HS.out.at_ (k := k) (by omega)
              change get? GRef15Owned wr (ad.add (k * 2)) = some s at hg
              have f1 := GRef15Owned.at_item hg
              rw [Addr.add_zero'] at f1
              obtain ⟨k1, hk1⟩ : ∃ k1, k + 1 = k1 := ⟨_, rfl⟩
              have HK1 := Lib.hid hk1
              obtain ⟨r, hr⟩ : ∃ r, (!Op.bytesLess s.item.toList item.toList && !(s.item.toList == item.toList)) = r := ⟨_, rfl⟩
              rw [hk1] at hk h0 ⊢
              have e1 : IntKind.i64.wrap ((k1 : Int) - 1) = (k : Int) := by rw [IntWalk.i64_in _ (by omega)]; omega
              have p1 : (0 : Int) ≤ (k : Int) := by omega
              have p2 : (k : Int) < (n : Int) := by omega
              have p3 : (0 : Int) < (k1 : Int) := by omega
              subst hA
              clear hg hsk hk1
              go_wp2_with fail
              have hk1 := HK1.out
              subst hk1
              go_meet
              exact ⟨r, rfl, by first | rfl | trivial, fun _ => h0⟩
          case rest =>
            obtain ⟨b, rfl, rfl, hb⟩ := hcut
            obtain ⟨wr, rfl⟩ : ∃ w', w' = wc := ⟨_, rfl⟩
            cases b
            · have HT2 := Lib.hid (show RTwin (reserveQ Q item client) (L.take k ++ (item, client) :: L.drop k) by
                unfold reserveQ
                rw [if_pos HO.out]
                exact HT.out.ins HIS.out k)
              clear hb
              have hfr := HFR.out
              have hk0 : (0 : Int) ≤ (k : Int) := by omega
              have hkn : (k : Int) ≤ (n : Int) := by omega
              have hsl := HS.out
              have hss : (L.map ow).length = n := hsl.1
              have HSL := Lib.hid hsl
              have hkc0 : k ≤ c0 := by omega
              obtain ⟨A2, hA2, hA3, hdrop⟩ : ∃ A2 : Option Addr, (∀ ad, A0 = some ad → (if c0 = k then some ad else some (ad.add (k * 2))) = A2) ∧ (A0 = none → A2 = none) ∧ Sl GRef15Owned wr wr.heap.size A2 (n - k) ((L.map ow).drop k) := by
                rcases Nat.lt_or_ge k n with h | h
                · obtain ⟨ad, e, h9⟩ := hsl.drop h
                  subst e
                  exact ⟨_, fun ad' e => (by injection e with e; subst e; rw [if_neg (by omega)]; rfl), fun e => (by cases e), h9⟩
                · have hn : Sl GRef15Owned wr wr.heap.size (match A0 with | none => none | some ad => if c0 = k then some ad else some (ad.add (k * 2))) (n - k) ((L.map ow).drop k) := by
                    rw [List.drop_of_length_le (by omega)]
                    exact ⟨by simp; omega, fun h9 => by omega⟩
                  exact ⟨_, fun ad e => (by subst e; rfl), fun e => (by subst e; rfl), hn⟩
              have hpre := hsl.take (k := k) hk
              go_wp2_with fail
              refine wp_region_G GB [22] GB.rf (by kernel_rfl) ?_
              refine wpG_looks 6 23 [0,1,2,3,4,5,6,7,8,9,10,12,13,14,15,16,17] rfl GB.rf GB.tr (by kernel_rfl) (fun _ _ _ _ hd h => And.intro (hd ▸ And.left h) (And.right h)) rfl (by kernel_rfl) ?_
              intro ι W hne CW
              have g1 : ∀ z, (W z).cell? ⟨g, 0, none⟩ = some (.slice A0 n c0) := fun z => (CW.out z).cell hc
              cases A0 with
              | none =>
                have hA4 := hA3 rfl
                subst hA4
                have hn0 : n = 0 := by
                  rcases Nat.eq_zero_or_pos n with h | h
                  · exact h
                  · obtain ⟨ad, e, _⟩ := hsl.2 h; cases e
                have hk00 : k = 0 := by omega
                subst hn0; subst hk00
                repeat (refine wpLooksG_step (fun K hK => ?_); go_simp; refine hK _ ?_; clear hK K)
                refine wpLooksG_nil ?_
                clear g1 CW hne W ι
                have hdrop' : Sl GRef15Owned wr wr.heap.size none 0 ((L.map ow).drop 0) := hdrop
                have hpre' : Sl GRef15Owned wr wr.heap.size none 0 ((L.map ow).take 0) := hpre
                refine wpG_force 11 _ rfl (by kernel_rfl) rfl fun wa hwa K hK => ?_
                go_simp
                refine hK _ _ (fun _ => GB.al _ _) ?_
                clear hK K
                have hb1 : Bel wr (wa.alloc (.cells (GRef15Owned.enc ⟨item, client⟩).toArray 143)) := hwa.undrew.alloc _
                have hnew : Sl GRef15Owned (wa.alloc (.cells (GRef15Owned.enc ⟨item, client⟩).toArray 143)) (wa.alloc (.cells (GRef15Owned.enc ⟨item, client⟩).toArray 143)).heap.size (some ⟨wa.heap.size, 0, none⟩) 1 [⟨item, client⟩] := Sl.new_ (by simp; rfl) rfl rfl (by simp)
                generalize wa.alloc (.cells (GRef15Owned.enc ⟨item, client⟩).toArray 143) = wb at hb1 hnew ⊢
                refine wpG_force 18 _ rfl (by kernel_rfl) rfl fun wc hwc K hK => ?_
                obtain ⟨A5, c5, wd, hrun5, hsl5, hb5, _, _⟩ := gAppend_cut (P := Tryz.prog) ei86 (k := 1) (m := 0) (c2 := c0) (hnew.stepB hwc) (hdrop'.stepB (hb1.trans hwc)) (by unfold maxLen; omega) (by omega) 86
                replace hrun5 : (gAppend #[86, 86] 86 #[.slice (some ⟨wa.heap.size, 0, none⟩) 1 1, .slice none 0 c0]).run Tryz.prog wc = .ok (.slice A5 1 c5) wd := hrun5
                go_simp
                refine hK _ _ (fun _ => hb5) ?_
                clear hK K hrun5
                have hbd : Bel wr wd := (hb1.trans hwc).trans hb5
                refine wpG_force 19 _ rfl (by kernel_rfl) rfl fun we hwe K hK => ?_
                obtain ⟨A6, c6, wf, hrun6, hsl6, hb6, hc6, hm6⟩ := gAppend_cut (P := Tryz.prog) ei86 (k := 0) (m := 1) (c2 := c5) (hpre'.stepB (hbd.trans hwe)) (hsl5.stepB hwe) (by unfold maxLen; omega) (by omega) 86
                replace hrun6 : (gAppend #[86, 86] 86 #[.slice none 0 0, .slice A5 1 c5]).run Tryz.prog we = .ok (.slice A6 1 c6) wf := hrun6
                go_simp
                refine hK _ _ (fun _ => hb6) ?_
                clear hK K hrun6
                have hbf : Bel wr wf := (hbd.trans hwe).trans hb6
                refine wpG_force 20 _ rfl (by kernel_rfl) rfl fun wh hwh K hK => ?_
                go_simp
                refine hK _ _ (fun _ => GB.rf _) ?_
                clear hK K
                refine wpG_force 21 _ rfl (by kernel_rfl) rfl fun wi hwi K hK => ?_
                go_simp
                refine hK _ _ (fun _ => GB.rf _) ?_
                clear hK K
                refine wpG_force 22 _ rfl (by kernel_rfl) rfl fun wj hwj K hK => ?_
                have hbj : Bel wf wj := GB.tr _ _ _ (GB.tr _ _ _ hwh hwi) hwj
                have hbj2 : Bel wr wj := hbf.trans hbj
                have q1 := GB.cell hbj2 hc
                have q2 := frozen_of_free (a := ⟨g, 0, none⟩) ((blkFree_keep (Below.block hbj2 g (World.block_lt_of_cell? wr _ hc))).trans hfr)
                have hlay := RRegIs.lay (hd := ⟨A6, 1, c6⟩) (HR.out.bel hbj2) (L' := L.take 0 ++ (item, client) :: L.drop 0) (by
                  have h1 := hsl6.stepB hbj
                  rw [show (L.take 0 ++ (item, client) :: L.drop 0).map ow = (L.map ow).take 0 ++ (([⟨item, client⟩] : List GRef15Owned) ++ (L.map ow).drop 0) by simp [ow]]
                  exact h1) hc6 hm6
                go_simp
                refine hK _ _ (fun h => absurd (by simp) h) ?_
                clear hK K
                have hch : Chg (fun q => q = g) wr (wj.setCell ⟨g, 0, none⟩ (.slice A6 (1) c6)) := (Chg.of_bel hbj2 _).tr ⟨rfl, rfl, rfl, by simp, fun k _ hn => Below.heap_setCell _ _ _ _ hn⟩
                have hlay2 : RRegIs (wj.setCell ⟨g, 0, none⟩ (.slice A6 (1) c6)) g (L.take 0 ++ (item, client) :: L.drop 0) := hlay
                generalize wj.setCell ⟨g, 0, none⟩ (.slice A6 (1) c6) = wk at hch hlay2 ⊢
                refine wpG_end (by kernel_rfl) (fun wn hwn => ?_) _
                have HL := Lib.hid (hlay2.bel hwn); have HCH := Lib.hid (hch.tr (Chg.of_bel hwn _))
                clear hlay hlay2 hch hwn q1 q2 hbj hbj2 hbf hbd
                go_wp2_with fail
                go_ret
                exact ⟨ret_int HO.out.symm, _, HT2.out, HL.out, HCH.out⟩
              | some ad =>
                have hA4 := hA2 ad rfl
                repeat (refine wpLooksG_step (fun K hK => ?_); go_simp; refine hK _ ?_; clear hK K)
                refine wpLooksG_nil ?_
                clear g1 CW hne W ι
                refine wpG_force 11 _ rfl (by kernel_rfl) rfl fun wa hwa K hK => ?_
                go_simp
                refine hK _ _ (fun _ => GB.al _ _) ?_
                clear hK K
                have hb1 : Bel wr (wa.alloc (.cells (GRef15Owned.enc ⟨item, client⟩).toArray 143)) := hwa.undrew.alloc _
                have hnew : Sl GRef15Owned (wa.alloc (.cells (GRef15Owned.enc ⟨item, client⟩).toArray 143)) (wa.alloc (.cells (GRef15Owned.enc ⟨item, client⟩).toArray 143)).heap.size (some ⟨wa.heap.size, 0, none⟩) 1 [⟨item, client⟩] := Sl.new_ (by simp; rfl) rfl rfl (by simp)
                generalize wa.alloc (.cells (GRef15Owned.enc ⟨item, client⟩).toArray 143) = wb at hb1 hnew ⊢
                refine wpG_force 18 _ rfl (by kernel_rfl) rfl fun wc hwc K hK => ?_
                obtain ⟨A5, c5, wd, hrun5, hsl5, hb5, _, _⟩ := gAppend_cut (P := Tryz.prog) ei86 (c2 := c0 - k) (hnew.stepB hwc) (hdrop.stepB (hb1.trans hwc)) (by unfold maxLen at *; omega) (by omega) 86
                go_simp
                refine hK _ _ (fun _ => hb5) ?_
                clear hK K hrun5
                have hbd : Bel wr wd := (hb1.trans hwc).trans hb5
                refine wpG_force 19 _ rfl (by kernel_rfl) rfl fun we hwe K hK => ?_
                obtain ⟨A6, c6, wf, hrun6, hsl6, hb6, hc6, hm6⟩ := gAppend_cut (P := Tryz.prog) ei86 (c2 := c5) (hpre.stepB (hbd.trans hwe)) (hsl5.stepB hwe) (by unfold maxLen at *; omega) (by omega) 86
                go_simp
                refine hK _ _ (fun _ => hb6) ?_
                clear hK K hrun6
                have hbf : Bel wr wf := (hbd.trans hwe).trans hb6
                refine wpG_force 20 _ rfl (by kernel_rfl) rfl fun wh hwh K hK => ?_
                go_simp
                refine hK _ _ (fun _ => GB.rf _) ?_
                clear hK K
                refine wpG_force 21 _ rfl (by kernel_rfl) rfl fun wi hwi K hK => ?_
                go_simp
                refine hK _ _ (fun _ => GB.rf _) ?_
                clear hK K
                refine wpG_force 22 _ rfl (by kernel_rfl) rfl fun wj hwj K hK => ?_
                have hbj : Bel wf wj := GB.tr _ _ _ (GB.tr _ _ _ hwh hwi) hwj
                have hbj2 : Bel wr wj := hbf.trans hbj
                have q1 := GB.cell hbj2 hc
                have q2 := frozen_of_free (a := ⟨g, 0, none⟩) ((blkFree_keep (Below.block hbj2 g (World.block_lt_of_cell? wr _ hc))).trans hfr)
                have hlay := RRegIs.lay (hd := ⟨A6, k + (1 + (n - k)), c6⟩) (HR.out.bel hbj2) (L' := L.take k ++ (item, client) :: L.drop k) (by
                  have h1 := hsl6.stepB hbj
                  rw [show (L.take k ++ (item, client) :: L.drop k).map ow = (L.map ow).take k ++ (([⟨item, client⟩] : List GRef15Owned) ++ (L.map ow).drop k) by rw [List.map_append, List.map_cons, List.map_take, List.map_drop]; rfl]
                  exact h1) hc6 hm6
                go_simp
                refine hK _ _ (fun h => absurd (by simp) h) ?_
                clear hK K
                have hch : Chg (fun q => q = g) wr (wj.setCell ⟨g, 0, none⟩ (.slice A6 (k + (1 + (n - k))) c6)) := (Chg.of_bel hbj2 _).tr ⟨rfl, rfl, rfl, by simp, fun k _ hn => Below.heap_setCell _ _ _ _ hn⟩
                have hlay2 : RRegIs (wj.setCell ⟨g, 0, none⟩ (.slice A6 (k + (1 + (n - k))) c6)) g (L.take k ++ (item, client) :: L.drop k) := hlay
                generalize wj.setCell ⟨g, 0, none⟩ (.slice A6 (k + (1 + (n - k))) c6) = wk at hch hlay2 ⊢
                refine wpG_end (by kernel_rfl) (fun wn hwn => ?_) _
                have HL := Lib.hid (hlay2.bel hwn); have HCH := Lib.hid (hch.tr (Chg.of_bel hwn _))
                clear hlay hlay2 hch hwn q1 q2 hbj hbj2 hbf hbd
                go_wp2_with fail
                go_ret
                exact ⟨ret_int HO.out.symm, _, HT2.out, HL.out, HCH.out⟩
            · have h0 := hb rfl
              have e1 : IntKind.i64.wrap ((k : Int) - 1) = ((k - 1 : Nat) : Int) := by rw [IntWalk.i64_in _ (by omega)]; omega
              clear hb
              go_wp2_with fail
              refine ⟨⟨k - 1, by omega, by first | rfl | go_num, by first | rfl | trivial⟩, ?_⟩
              simp [intOf]; omega
    · have HO := Lib.hid (show reserveR Q item client = 5 by unfold reserveR; rw [HMB.out, HIS.out, if_pos rfl, if_pos rfl])
      go_wp2_with fail
      go_ret
      exact rreserve_no HT.out HR.out (Bel.refl _) HO.out (by decide)
end Go.Proofs.YteockodnfempfaaGreatDoor
/- The document's registry: Release. Conditions: those named in each theorem. -/
namespace Go.Proofs.YteockodnfempfaaGreatDoor
open Go Go.RowKit Go.Gv Go.Sort

theorem rrelease_no {w w' : World} {g : Nat} {Q L : MReg} {item : ByteArray} {client c : Int} (hT : RTwin Q L) (hR : RRegIs w g L) (hb : Bel w w') (hc : releaseR Q item client = c) (h0 : c ≠ 0) :
    Ending.returned (.int .i64 c) = Ending.returned (.int .i64 (releaseR Q item client)) ∧ RqLeft w g (releaseQ Q item client) w' := by
  subst hc
  refine ⟨rfl, ?_⟩
  unfold releaseQ
  rw [if_neg h0]
  exact RqLeft.same hT hR hb
theorem mdel_snoc_same {L : MReg} {k : Nat} {x : ByteArray × Int} (hx : L[k]? = some x) {item : ByteArray} (he : x.1 = item) : mdel (L.take (k + 1)) item = mdel (L.take k) item := by
  unfold mdel
  rw [List.take_add_one, hx, List.filter_append]
  simp [he]
theorem mdel_snoc_other {L : MReg} {k : Nat} {x : ByteArray × Int} (hx : L[k]? = some x) {item : ByteArray} (he : x.1 ≠ item) : (mdel (L.take (k + 1)) item).map ow = (mdel (L.take k) item).map ow ++ [ow x] := by
  unfold mdel
  rw [List.take_add_one, hx, List.filter_append]
  simp [he]
set_option maxRecDepth 100000 in
set_option maxHeartbeats 4000000 in
theorem rrelease_any (g : Nat) (Q L : MReg) (item : ByteArray) (client : Int) (w : World) (hR : RRegIs w g L) (hT : RTwin Q L) (hn : item.size ≤ maxLen) (hl : L.length ≤ 1000000) :
    Calls Tryz.prog 57 #[.pointer (some ⟨g, 0, none⟩), .string item, .int .i64 client] w fun e w' => e = .returned (.int .i64 (releaseR Q item client)) ∧ RqLeft w g (releaseQ Q item client) w' := by
  have HR := Lib.hid hR; have HT := Lib.hid hT
  have HF := Lib.hid (rowner_any g Q L item w hR hT hl)
  obtain ⟨A0, c0, hc, hfree, hs, hk7, h8⟩ := hR.cell
  obtain ⟨n, hnl⟩ : ∃ n, L.length = n := ⟨_, rfl⟩
  rw [hnl] at hc hs hl hk7
  have HC := Lib.hid hc
  have HS := Lib.hid hs; have HNL := Lib.hid hnl; have HFR := Lib.hid hfree
  obtain ⟨mb, hmb⟩ : ∃ b, mayB item client = b := ⟨_, rfl⟩
  have HMB := Lib.hid hmb
  obtain ⟨om, hom⟩ : ∃ o, mget Q item = o := ⟨_, rfl⟩
  have HOM := Lib.hid hom
  rw [hom] at HF
  clear hR hT hs hnl hfree hmb hom
  cases mb
  · have HO := Lib.hid (show releaseR Q item client = 1 by unfold releaseR; rw [HMB.out]; rfl)
    go_enter Tryz.func57, Tryz.ntmps57
    go_wp2_with fail
    refine (rmay_is false item client _ HMB.out hn).mono ?_
    rintro _ w1 ⟨rfl, h5⟩
    obtain rfl : w = w1 := h5.symm
    go_wp2_with fail
    go_ret
    exact rrelease_no HT.out HR.out (Bel.refl _) HO.out (by decide)
  · go_enter Tryz.func57, Tryz.ntmps57
    go_wp2_with fail
    refine (rmay_is true item client _ HMB.out hn).mono ?_
    rintro _ w1 ⟨rfl, h5⟩
    obtain rfl : w = w1 := h5.symm
    go_wp2_with fail
    cases om with
    | none =>
      have HO := Lib.hid (show releaseR Q item client = 6 by unfold releaseR; rw [HMB.out, HOM.out]; rfl)
      have HF2 : Hid (Calls Tryz.prog 58 #[.pointer (some ⟨g, 0, none⟩), .string item] w fun e w' => e = .returned (.tuple #[.int .i64 0, .bool false]) ∧ w' = w) := HF
      refine HF2.out.mono ?_
      rintro _ w1 ⟨rfl, h5⟩
      obtain rfl : w = w1 := h5.symm
      go_wp2_with fail
      go_ret
      exact rrelease_no HT.out HR.out (Bel.refl _) HO.out (by decide)
    | some who =>
      have HF2 : Hid (Calls Tryz.prog 58 #[.pointer (some ⟨g, 0, none⟩), .string item] w fun e w' => e = .returned (.tuple #[.int .i64 who, .bool true]) ∧ w' = w) := HF
      refine HF2.out.mono ?_
      rintro _ w1 ⟨rfl, h5⟩
      obtain rfl : w = w1 := h5.symm
      by_cases hw : who = client
      · have HO := Lib.hid (show releaseR Q item client = 0 by unfold releaseR; rw [HMB.out, HOM.out]; simp [hw])
        have hw2 : (who == client) = true := by simp [hw]
        have HT2 := Lib.hid (show RTwin (releaseQ Q item client) (mdel L item) by unfold releaseQ; rw [if_pos HO.out]; exact HT.out.del item)
        clear hw
        go_wp2_with fail
        go_loopw [9, 31] (fun ov iv wr => ∃ (k : Nat), k ≤ n ∧ iv = .int .i64 k ∧ Hid (OwnS wr w.heap.size 143 ov ((mdel (L.take k) item).map ow)) ∧ Hid (Bel w wr)) (fun _ iv _ => n - (intOf iv).toNat)
        case atStart => exact ⟨0, by omega, rfl, Lib.hid (OwnS.nil _ _ _), Lib.hid (Bel.refl _)⟩
        case round =>
          obtain ⟨k, hk, rfl, HO9, HB9⟩ := hrel
          have hc2 := GB.cell HB9.out HC.out
          by_cases hlt : k < n
          · obtain ⟨ad, s, hA, _, hsk, hg⟩ := (HS.out.stepB HB9.out).at_ (k := k) hlt
            obtain ⟨x, hx⟩ : ∃ x, L[k]? = some x := ⟨_, List.getElem?_eq_getElem (by rw [HNL.out]; exact hlt)⟩
            rw [List.getElem?_map, hx] at hsk
            injection hsk with hsk
            subst hsk
            change get? GRef15Owned wr (ad.add (k * 2)) = some (ow x) at hg
            have f1 := GRef15Owned.at_item hg
            rw [Addr.add_zero'] at f1
            have hxi : (ow x).item = x.1 := rfl
            rw [hxi] at f1
            subst hA
            have HX := Lib.hid hx
            have hlt2 : (k : Int) < (n : Int) := by omega
            have hk0 : (0 : Int) ≤ (k : Int) := by omega
            have hln : ((mdel (L.take k) item).map ow).length ≤ 1000000 := by
              rw [List.length_map]
              unfold mdel
              exact Nat.le_trans (List.length_filter_le _ _) (by rw [List.length_take]; omega)
            clear hx hc hxi
            by_cases he : x.1 = item
            · have hq : (x.1.toList == item.toList) = true := by simp [he]
              have HO10 : Hid (OwnS wr w.heap.size 143 _ ((mdel (L.take (k + 1)) item).map ow)) := Lib.hid (by rw [mdel_snoc_same HX.out he]; exact HO9.out)
              clear hg he
              go_wp2_with fail
              exact ⟨⟨k + 1, by omega, by go_num, HO10, HB9⟩, by simp [intOf]; omega⟩
            · have hq : (x.1.toList == item.toList) = false := by simpa using fun e => he (bytes_eq e)
              have hwz := HB9.out.size
              obtain ⟨v4, w4, hrun, ho4, hg4, _⟩ := gAppend_S (P := Tryz.prog) ei86 (t := 86) (HO9.out.step ((Bel.refl wr).alloc (.cells (GRef15Owned.enc (ow x)).toArray 143))) (c := 1) (m := 1) (A := some ⟨wr.heap.size, 0, none⟩) (B := wr.heap.size + 1) (Sl.new_ (xs := [ow x]) (by simp; rfl) rfl rfl (by omega)) (by unfold maxLen; omega) (by omega) (by simp; omega) 86
              have hb4 : Bel w w4 := (HB9.out.trans ((Bel.refl wr).alloc _)).appS hg4 (HO9.out.step ((Bel.refl wr).alloc _)) (Nat.le_refl _)
              rw [← mdel_snoc_other HX.out he] at ho4
              have HO10 := Lib.hid ho4; have HB10 := Lib.hid hb4
              clear ho4 hb4 hg4 he
              go_wp2_with fail
              exact ⟨⟨k + 1, by omega, by go_num, HO10, HB10⟩, by simp [intOf]; omega⟩
          · obtain rfl : k = n := by omega
            have hn1 : ¬ (k : Int) < (k : Int) := by omega
            have ho := HO9.out
            rw [List.take_of_length_le (by rw [HNL.out]; exact Nat.le_refl _)] at ho
            obtain ⟨A5, c5, hv5, hs5, hc5, hm5, _⟩ := ho.shape
            rw [List.length_map] at hv5 hs5 hc5
            obtain ⟨n5, hn5⟩ : ∃ n5, (mdel L item).length = n5 := ⟨_, rfl⟩
            rw [hn5] at hv5 hs5 hc5
            subst hv5
            have hlay := RRegIs.lay (hd := ⟨A5, n5, c5⟩) (HR.out.bel HB9.out) (L' := mdel L item) hs5 hc5 hm5
            have hlay2 : RRegIs (wr.setCell ⟨g, 0, none⟩ (.slice A5 n5 c5)) g (mdel L item) := hlay
            have hch : Chg (fun q => q = g) w (wr.setCell ⟨g, 0, none⟩ (.slice A5 n5 c5)) := (Chg.of_bel HB9.out _).tr ⟨rfl, rfl, rfl, by simp, fun k _ hn => Below.heap_setCell _ _ _ _ hn⟩
            have hfr := frozen_of_free (a := ⟨g, 0, none⟩) ((blkFree_keep (Below.block HB9.out g (World.block_lt_of_cell? w _ HC.out))).trans HFR.out)
            have HL := Lib.hid hlay2; have HCH := Lib.hid hch
            clear hlay hlay2 hch ho hs5 hc hn5
            go_wp2_with fail
            go_ret
            exact ⟨ret_int HO.out.symm, _, HT2.out, HL.out, HCH.out⟩
      · have HO := Lib.hid (show releaseR Q item client = 12 by unfold releaseR; rw [HMB.out, HOM.out]; simp [hw])
        have hw2 : (who == client) = false := by simpa using hw
        go_wp2_with fail
        go_ret
        exact rrelease_no HT.out HR.out (Bel.refl _) HO.out (by decide)
end Go.Proofs.YteockodnfempfaaGreatDoor
/- A number's digits, as the document writes them. Conditions: those named in each theorem. -/
namespace Go.Proofs.YteockodnfempfaaGreatDoor
open Go Go.RowKit Go.Gv Go.Sort Go.Proofs

/-- One digit, as a text. -/
theorem dig_conv (w : World) (b k : Nat) (hk : k < 10) (h0 : w.cell? ⟨b, 0, none⟩ = some (.int .u8 (48 + (k : Int)))) :
    (convert 38 9 (.slice (some ⟨b, 0, none⟩) 1 1)).run Tryz.prog w = .ok (.string ⟨#[UInt8.ofNat (48 + k)]⟩) w := by
  have := run_convert_bytes_back (P := Tryz.prog) w 38 9 5 ⟨b, 0, none⟩ 1 [UInt8.ofNat (48 + k)] (by kernel_rfl) (by kernel_rfl) (by kernel_rfl) (fun j hj => by
    match j, hj with
    | 0, _ =>
      show w.cell? ⟨b, 0, none⟩ = _
      rw [h0]
      show some (Value.int .u8 (48 + (k : Int))) = some (Value.int .u8 (((UInt8.ofNat (48 + k)).toNat : Nat) : Int))
      rw [UInt8.toNat_ofNat', show (48 + k) % 2 ^ 8 = 48 + k from by omega]
      push_cast
      rfl)
  exact this
def digS (n : Nat) : ByteArray := ⟨(Lib.decDigits n).toArray⟩
theorem digS_one {n : Nat} (h : n < 10) : digS n = ⟨#[UInt8.ofNat (48 + n)]⟩ := by unfold digS; rw [Lib.decDigits_one h]
theorem digS_more {n : Nat} (h : ¬ n < 10) : digS n = digS (n / 10) ++ ⟨#[UInt8.ofNat (48 + n % 10)]⟩ := by
  unfold digS
  conv => lhs; rw [Lib.decDigits, dif_neg h]
  apply ByteArray.ext
  rw [ByteArray.data_append]
  apply Array.ext'
  simp
theorem digS_size (n : Nat) : (digS n).size ≤ n + 1 := by
  induction n using Nat.strongRecOn with
  | _ n ih =>
    by_cases h : n < 10
    · rw [digS_one h]; show 1 ≤ n + 1; omega
    · have := ih (n / 10) (by omega)
      rw [digS_more h, ByteArray.size_append]
      show (digS (n / 10)).size + 1 ≤ n + 1
      omega
set_option maxRecDepth 100000 in
set_option maxHeartbeats 2000000 in
theorem digits_any (n : Nat) : ∀ (w : World), n ≤ 1125899906842624 →
    Calls Tryz.prog 55 #[.int .i64 (n : Int)] w fun e w' => e = .returned (.string (digS n)) ∧ Bel w w' := by
  induction n using Nat.strongRecOn with
  | _ n ih =>
    intro w hn
    by_cases h10 : n < 10
    · have h10i : (n : Int) < 10 := by omega
      have e1 : IntKind.i64.wrap (48 + (n : Int)) = 48 + (n : Int) := IntWalk.i64_in _ (by omega)
      have e2 : IntKind.u8.wrap (48 + (n : Int)) = 48 + (n : Int) := IntWalk.u8_in _ (by omega)
      have hcv : (convert 38 9 (.slice (some ⟨w.heap.size, 0, none⟩) 1 1)).run Tryz.prog (w.alloc (.cells #[.int .u8 (48 + (n : Int))] 5)) = .ok (.string ⟨#[UInt8.ofNat (48 + n)]⟩) (w.alloc (.cells #[.int .u8 (48 + (n : Int))] 5)) := by
        refine dig_conv _ _ n h10 ?_
        unfold World.cell?; rw [heap_alloc_new]; rfl
      rw [← digS_one h10] at hcv
      clear ih
      go_enter Tryz.func55, Tryz.ntmps55
      go_wp2_with fail
      go_ret
      exact ⟨rfl, (Bel.refl _).alloc _⟩
    · have h10i : ¬ (n : Int) < 10 := by omega
      obtain ⟨q, hq⟩ : ∃ q, n / 10 = q := ⟨_, rfl⟩
      obtain ⟨m, hm⟩ : ∃ m, n % 10 = m := ⟨_, rfl⟩
      have hm9 : m < 10 := by omega
      have hq9 : q < n := by omega
      have HIH := Lib.hid (ih q hq9)
      have hS := digS_more h10
      rw [hq, hm] at hS
      have hsz := digS_size q
      have HS := Lib.hid hS
      have d1 : Int.tdiv (n : Int) 10 = (q : Int) := by rw [← hq]; rfl
      have d2 : Int.tmod (n : Int) 10 = (m : Int) := by rw [← hm]; rfl
      have e0 : IntKind.i64.wrap (q : Int) = (q : Int) := IntWalk.i64_in _ (by omega)
      have e3 : IntKind.i64.wrap (m : Int) = (m : Int) := IntWalk.i64_in _ (by omega)
      have e1 : IntKind.i64.wrap (48 + (m : Int)) = 48 + (m : Int) := IntWalk.i64_in _ (by omega)
      have e2 : IntKind.u8.wrap (48 + (m : Int)) = 48 + (m : Int) := IntWalk.u8_in _ (by omega)
      obtain ⟨S, hSd⟩ : ∃ S, digS m = S := ⟨_, rfl⟩
      have hS1 : S.size = 1 := by rw [← hSd, digS_one hm9]; rfl
      obtain ⟨Q, hQd⟩ : ∃ Q, digS q = Q := ⟨_, rfl⟩
      rw [← digS_one hm9, hSd, hQd] at HS
      rw [hQd] at hsz HIH
      have hsz2 : ¬ 9223372036854775807 < Q.size + 1 := by omega
      have HSD := Lib.hid hSd
      clear hSd hQd
      clear ih hS hq hm
      go_enter Tryz.func55, Tryz.ntmps55
      go_upto_region 3 with fail
      go_cut [2] (fun v wx => v = .string (digS n) ∧ Bel w wx)
      case first => as_aux_lemma =>
        refine wp_region_G GB [] GB.rf (by kernel_rfl) ?_
        refine wpG_looks 5 11 [0,1,3,4,5,6] rfl GB.rf GB.tr (by kernel_rfl) (fun _ _ _ _ hd h => And.intro (hd ▸ And.left h) (And.right h)) rfl (by kernel_rfl) ?_
        intro ι W hne CW
        clear CW
        repeat (refine wpLooksG_step (fun K hK => ?_); go_simp; refine hK _ ?_; clear hK K)
        refine wpLooksG_nil ?_
        clear hne W ι
        --GOAL
        refine wpG_two 2 7 _ _ rfl rfl (by kernel_rfl) rfl rfl ?_ ?_
        · intro wa hq K hK
          have HB := Lib.hid (show Bel w wa from hq.undrew)
          go_simp
          refine (HIH.out wa (by omega)).mono ?_
          rintro _ wb ⟨rfl, hb⟩
          refine hK _ _ (fun _ => hb) ?_
          have HB := Lib.hid (HB.out.trans hb)
          clear hK K hq hb
          refine wpG_force 7 _ rfl (by kernel_rfl) rfl fun wc hq K hK => ?_
          have HB := Lib.hid (HB.out.trans hq)
          go_simp
          refine hK _ _ (fun _ => GB.al _ _) ?_
          clear hK K hq
          have HB := Lib.hid (HB.out.alloc (.cells #[.int .u8 (48 + (m : Int))] 5))
          have h0 : (wc.alloc (.cells #[.int .u8 (48 + (m : Int))] 5)).cell? ⟨wc.heap.size, 0, none⟩ = some (.int .u8 (48 + (m : Int))) := by unfold World.cell?; rw [heap_alloc_new]; rfl
          refine wpG_force 8 _ rfl (by kernel_rfl) rfl fun wd hq K hK => ?_
          have hcv := dig_conv wd wc.heap.size m hm9 (GB.cell hq h0)
          rw [← digS_one hm9, HSD.out] at hcv
          have HB := Lib.hid (HB.out.trans hq)
          go_simp
          refine hK _ _ (fun _ => GB.rf _) ?_
          clear hK K hq h0 hcv
          refine wpG_force 9 _ rfl (by kernel_rfl) rfl fun we hq K hK => ?_
          have HB := Lib.hid (HB.out.trans hq)
          go_simp
          refine hK _ _ (fun _ => GB.rf _) ?_
          clear hK K hq
          refine wpG_force 10 _ rfl (by kernel_rfl) rfl fun wf hq K hK => ?_
          have HB := Lib.hid (HB.out.trans hq)
          go_simp
          refine hK _ _ (fun _ => GB.rf _) ?_
          clear hK K hq
          refine wpG_end (by kernel_rfl) (fun wn hwn => ?_) _
          have HB := Lib.hid (HB.out.trans hwn)
          clear hwn
          go_wp2_with fail
          go_meet
          exact ⟨by rw [HS.out], HB.out⟩
        · intro wa hq K hK
          have HB := Lib.hid (show Bel w wa from hq.undrew)
          go_simp
          refine hK _ _ (fun _ => GB.al _ _) ?_
          clear hK K hq
          have HB := Lib.hid (HB.out.alloc (.cells #[.int .u8 (48 + (m : Int))] 5))
          have h0 : (wa.alloc (.cells #[.int .u8 (48 + (m : Int))] 5)).cell? ⟨wa.heap.size, 0, none⟩ = some (.int .u8 (48 + (m : Int))) := by unfold World.cell?; rw [heap_alloc_new]; rfl
          have H0 := Lib.hid h0
          clear h0
          refine wpG_two 2 8 _ _ rfl rfl (by kernel_rfl) rfl rfl ?_ ?_
          · intro wb hq K hK
            have HB := Lib.hid (HB.out.trans hq)
            have H0 := Lib.hid (GB.cell hq H0.out)
            go_simp
            refine (HIH.out wb (by omega)).mono ?_
            rintro _ wc ⟨rfl, hb⟩
            refine hK _ _ (fun _ => hb) ?_
            have HB := Lib.hid (HB.out.trans hb)
            have H0 := Lib.hid (GB.cell hb H0.out)
            clear hK K hq hb
            refine wpG_force 8 _ rfl (by kernel_rfl) rfl fun wd hq K hK => ?_
            have hcv := dig_conv wd wa.heap.size m hm9 (GB.cell hq H0.out)
            rw [← digS_one hm9, HSD.out] at hcv
            have HB := Lib.hid (HB.out.trans hq)
            go_simp
            refine hK _ _ (fun _ => GB.rf _) ?_
            clear hK K hq hcv
            refine wpG_force 9 _ rfl (by kernel_rfl) rfl fun we hq K hK => ?_
            have HB := Lib.hid (HB.out.trans hq)
            go_simp
            refine hK _ _ (fun _ => GB.rf _) ?_
            clear hK K hq
            refine wpG_force 10 _ rfl (by kernel_rfl) rfl fun wf hq K hK => ?_
            have HB := Lib.hid (HB.out.trans hq)
            go_simp
            refine hK _ _ (fun _ => GB.rf _) ?_
            clear hK K hq
            refine wpG_end (by kernel_rfl) (fun wn hwn => ?_) _
            have HB := Lib.hid (HB.out.trans hwn)
            clear hwn
            go_wp2_with fail
            go_meet
            exact ⟨by rw [HS.out], HB.out⟩
          · intro wb hq K hK
            have HB := Lib.hid (HB.out.trans hq)
            have hcv := dig_conv wb wa.heap.size m hm9 (GB.cell hq H0.out)
            rw [← digS_one hm9, HSD.out] at hcv
            go_simp
            refine hK _ _ (fun _ => GB.rf _) ?_
            clear hK K hq hcv
            refine wpG_force 2 _ rfl (by kernel_rfl) rfl fun wc hq K hK => ?_
            have HB := Lib.hid (HB.out.trans hq)
            go_simp
            refine (HIH.out wc (by omega)).mono ?_
            rintro _ wd ⟨rfl, hb⟩
            refine hK _ _ (fun _ => hb) ?_
            have HB := Lib.hid (HB.out.trans hb)
            clear hK K hq hb
            refine wpG_force 9 _ rfl (by kernel_rfl) rfl fun we hq K hK => ?_
            have HB := Lib.hid (HB.out.trans hq)
            go_simp
            refine hK _ _ (fun _ => GB.rf _) ?_
            clear hK K hq
            refine wpG_force 10 _ rfl (by kernel_rfl) rfl fun wf hq K hK => ?_
            have HB := Lib.hid (HB.out.trans hq)
            go_simp
            refine hK _ _ (fun _ => GB.rf _) ?_
            clear hK K hq
            refine wpG_end (by kernel_rfl) (fun wn hwn => ?_) _
            have HB := Lib.hid (HB.out.trans hwn)
            clear hwn
            go_wp2_with fail
            go_meet
            exact ⟨by rw [HS.out], HB.out⟩
      case rest =>
        obtain ⟨rfl, hb⟩ := hcut
        have HB := Lib.hid hb
        clear hb
        go_wp2_with fail
        go_ret
        exact ⟨rfl, HB.out⟩
end Go.Proofs.YteockodnfempfaaGreatDoor
/- The document's words, numbers and told errors. Conditions: those named in each theorem. -/
namespace Go.Proofs.YteockodnfempfaaGreatDoor
open Go Go.RowKit Go.Gv Go.Sort Go.Proofs

/-- A list's words, by one blank each. -/
def headP (p : List UInt8) : List (List UInt8) → List (List UInt8)
  | [] => [p]
  | h :: t => (p ++ h) :: t
def wl : List UInt8 → List (List UInt8)
  | [] => [[]]
  | b :: l => if b = 32 then [] :: wl l else headP [b] (wl l)
theorem wl_ne : ∀ l, wl l ≠ []
  | [] => by simp [wl]
  | b :: l => by
    unfold wl
    split
    · simp
    · cases h : wl l with
      | nil => exact absurd h (wl_ne l)
      | cons a t => simp [headP]
theorem headP_nil {X : List (List UInt8)} (h : X ≠ []) : headP [] X = X := by
  cases X with
  | nil => exact absurd rfl h
  | cons a t => rfl
theorem headP_two (p q : List UInt8) {X : List (List UInt8)} (h : X ≠ []) : headP p (headP q X) = headP (p ++ q) X := by
  cases X with
  | nil => exact absurd rfl h
  | cons a t => simp [headP]
theorem split_wl : ∀ l : List UInt8, Lib.splitK [32] 0 (Lib.count l [32]) l = wl l
  | [] => by rw [Lib.count_miss (by simp [Lib.index])]; rfl
  | b :: l => by
    have ih := split_wl l
    have hix : b ≠ 32 → Lib.index (b :: l) [32] = if Lib.index l [32] == -1 then -1 else Lib.index l [32] + 1 := fun h => by
      have hp : ([32] : List UInt8).isPrefixOf (b :: l) = false := by simp [List.isPrefixOf, Ne.symm h]
      rw [Lib.index, hp]; simp
    by_cases hb : b = 32
    · subst hb
      have hi0 : Lib.index ((32 : UInt8) :: l) [32] = 0 := by rw [Lib.index]; simp [List.isPrefixOf]
      rw [Lib.count_cons_eq, Nat.add_comm, Lib.splitK, hi0]
      simp only [wl, if_true]
      rw [if_neg (by decide), ← ih]
      rfl
    · rw [Lib.count_cons_ne b 32 l hb]
      unfold wl
      rw [if_neg hb, ← ih]
      by_cases hm : Lib.index l [32] = -1
      · rw [Lib.count_miss hm]; rfl
      · have hge := Lib.index_ge l [32]
        obtain ⟨j, hj⟩ : ∃ j : Nat, Lib.index l [32] = j := ⟨(Lib.index l [32]).toNat, by omega⟩
        have hi2 : Lib.index (b :: l) [32] = ((j + 1 : Nat) : Int) := by rw [hix hb, if_neg (fun e => hm (beq_iff_eq.1 e)), hj]; omega
        rw [Lib.count_hit (by simp) hj, Nat.add_comm]
        unfold Lib.splitK
        rw [hi2, hj, if_neg (by simp; omega), if_neg (by simp)]
        simp [headP]
theorem words_wl (s : ByteArray) : (wordsM s).map (fun x => x.data.toList) = wl s.data.toList := by
  unfold wordsM
  rw [Lib.splitB_data]
  exact split_wl s.data.toList
theorem words_of {s : ByteArray} {L : List ByteArray} (h : L.map (fun x => x.data.toList) = wl s.data.toList) : L = wordsM s := by
  rw [← words_wl] at h
  exact (List.map_inj_right (fun a b e => ByteArray.ext (Array.toList_inj.1 e))).1 h
/-- Where the reading of words stands. -/
structure SplI (s : ByteArray) (i fr : Nat) (out : List ByteArray) : Prop where
  le : fr ≤ i
  is : out.map (fun x => x.data.toList) ++ headP ((s.data.toList.take i).drop fr) (wl (s.data.toList.drop i)) = wl s.data.toList
theorem SplI.start (s : ByteArray) : SplI s 0 0 [] := ⟨Nat.le_refl _, by simp [headP_nil (wl_ne _)]⟩
section
variable {s : ByteArray} {i fr : Nat} {out : List ByteArray}
theorem drop_at (h : i < s.size) : s.data.toList.drop i = s[i] :: s.data.toList.drop (i + 1) := by
  rw [List.drop_eq_getElem_cons (by simpa using h)]; rfl
theorem SplI.blank (h : SplI s i fr out) (hi : i < s.size) (hc : s[i] = 32) : SplI s (i + 1) (i + 1) (out ++ [s.extract fr i]) := by
  refine ⟨Nat.le_refl _, ?_⟩
  have h1 := h.is
  rw [drop_at hi] at h1
  simp only [wl, hc, if_true] at h1
  rw [← h1, List.map_append, List.append_assoc]
  have e1 : (s.data.toList.take (i + 1)).drop (i + 1) = [] := List.drop_of_length_le (by rw [List.length_take]; omega)
  rw [e1, headP_nil (wl_ne _)]
  simp [headP, List.drop_take]
theorem SplI.other (h : SplI s i fr out) (hi : i < s.size) (hc : s[i] ≠ 32) : SplI s (i + 1) fr out := by
  refine ⟨by have := h.le; omega, ?_⟩
  have h1 := h.is
  rw [drop_at hi] at h1
  simp only [wl, if_neg hc] at h1
  rw [headP_two _ _ (wl_ne _)] at h1
  rw [← h1]
  congr 2
  rw [take_snocU s i hi, List.drop_append_of_le_length (by rw [List.length_take]; have := h.le; simp; omega)]
theorem SplI.done (h : SplI s s.size fr out) : out ++ [s.extract fr s.size] = wordsM s := by
  apply words_of
  have h1 := h.is
  have e1 : s.data.toList.drop s.size = [] := List.drop_of_length_le (by simp)
  rw [e1] at h1
  rw [← h1, List.map_append]
  simp [headP, wl, List.drop_take]
theorem SplI.len (h : SplI s i fr out) : out.length ≤ s.size := by
  have h1 := congrArg List.length h.is
  have h2 := congrArg List.length (words_wl s)
  rw [List.length_map, wordsM_len] at h2
  have h3 := Lib.countB_le ⟨#[32]⟩ (by decide) s.size s (Nat.le_refl _)
  rw [List.length_append, List.length_map] at h1
  have h4 : 1 ≤ (headP ((s.data.toList.take i).drop fr) (wl (s.data.toList.drop i))).length := by
    cases hw : wl (s.data.toList.drop i) with
    | nil => simp [headP]
    | cons a t => simp [headP]
  omega
end
set_option maxRecDepth 100000 in
set_option maxHeartbeats 2000000 in
theorem rsplit_any (s : ByteArray) (w : World) (hs : s.size ≤ 100000) :
    Calls Tryz.prog 49 #[.string s] w fun e w' => ∃ v, e = .returned v ∧ OwnS w' w.heap.size 9 v ((wordsM s).map StrV.mk) ∧ Bel w w' := by
  go_enter Tryz.func49, Tryz.ntmps49
  go_wp2_with fail
  go_loopw [3, 4, 5] (fun ov fv iv wr => ∃ (i fr : Nat) (out : List ByteArray), iv = .int .i64 i ∧ fv = .int .i64 fr ∧ Hid (OwnS wr w.heap.size 9 ov (out.map StrV.mk)) ∧ Hid (Bel w wr) ∧ ((i ≤ s.size ∧ Hid (SplI s i fr out)) ∨ (i = s.size + 1 ∧ Hid (out = wordsM s)))) (fun _ _ iv _ => s.size + 1 - (intOf iv).toNat)
  case atStart => exact ⟨0, 0, [], rfl, rfl, Lib.hid (OwnS.nil _ _ _), Lib.hid (Bel.refl _), .inl ⟨Nat.zero_le _, Lib.hid (SplI.start s)⟩⟩
  case round =>
    obtain ⟨i, fr, out, rfl, rfl, HO, HB, hst⟩ := hrel
    rcases hst with ⟨hi, HI⟩ | ⟨hi, HW⟩
    · have hi1 : (i : Int) ≤ (s.size : Int) := by omega
      have hi0 : (0 : Int) ≤ (i : Int) := by omega
      have hfr := HI.out.le
      have hfr0 : (0 : Int) ≤ (fr : Int) := by omega
      have hfr1 : (fr : Int) ≤ (i : Int) := by omega
      have hln : (out.map StrV.mk).length ≤ 100000 := by rw [List.length_map]; exact Nat.le_trans HI.out.len hs
      have hwz := HB.out.size
      have hadd : ∀ t : ByteArray, ∃ v' w', (gAppend #[48, 48] 48 #[u3, .slice (some ⟨wr.heap.size, 0, none⟩) 1 1]).run Tryz.prog (wr.alloc (.cells #[.string t] 9)) = .ok v' w' ∧ OwnS w' w.heap.size 9 v' ((out ++ [t]).map StrV.mk) ∧ Bel w w' := fun t => by
        obtain ⟨v4, w4, hrun, ho4, hg4, _⟩ := gAppend_S (P := Tryz.prog) ei48 (t := 48) (HO.out.step ((Bel.refl wr).alloc (.cells #[.string t] 9))) (c := 1) (m := 1) (A := some ⟨wr.heap.size, 0, none⟩) (B := wr.heap.size + 1) (Sl.new_ (xs := [(⟨t⟩ : StrV)]) (by rfl) rfl rfl (by omega)) (by unfold maxLen; omega) (by omega) (by simp; omega) 48
        refine ⟨v4, w4, hrun, by rw [List.map_append]; exact ho4, (HB.out.trans ((Bel.refl wr).alloc _)).appS hg4 (HO.out.step ((Bel.refl wr).alloc _)) (Nat.le_refl _)⟩
      by_cases he : i = s.size
      · obtain ⟨v4, w4, hrun, ho4, hb4⟩ := hadd (s.extract fr i)
        subst he
        have HW := Lib.hid (HI.out.done)
        rw [HW.out] at ho4
        have HO4 := Lib.hid ho4; have HB4 := Lib.hid hb4
        have e1 : IntKind.i64.wrap ((s.size : Int) + 1) = (s.size : Int) + 1 := IntWalk.i64_in _ (by omega)
        clear hadd ho4 hb4
        go_wp2_with fail
        exact ⟨⟨s.size + 1, s.size + 1, wordsM s, by go_num, by go_num, HO4, HB4, .inr ⟨rfl, Lib.hid rfl⟩⟩, by simp [intOf]⟩
      · have hlt : i < s.size := by omega
        have hlt2 : (i : Int) < (s.size : Int) := by omega
        have hne : ((i : Int) == (s.size : Int)) = false := by simp; omega
        obtain ⟨c, hc⟩ : ∃ c, s[i] = c := ⟨_, rfl⟩
        have HC := Lib.hid hc
        by_cases hb : c = 32
        · obtain ⟨v4, w4, hrun, ho4, hb4⟩ := hadd (s.extract fr i)
          have HI4 := Lib.hid (HI.out.blank hlt (HC.out.trans hb))
          have HO4 := Lib.hid ho4; have HB4 := Lib.hid hb4
          subst hb
          have e1 : IntKind.i64.wrap ((i : Int) + 1) = (i : Int) + 1 := IntWalk.i64_in _ (by omega)
          clear hadd ho4 hb4
          go_wp2_with fail
          exact ⟨⟨i + 1, i + 1, _, by go_num, by go_num, HO4, HB4, .inl ⟨by omega, HI4⟩⟩, by simp [intOf]; omega⟩
        · have HI4 := Lib.hid (HI.out.other hlt (fun e => hb (HC.out.symm.trans e)))
          have hcn : ((c.toNat : Int) == 32) = false := by
            have : c.toNat ≠ 32 := fun e => hb (UInt8.toNat_inj.1 e)
            simp; omega
          clear hadd hb
          go_wp2_with fail
          exact ⟨⟨i + 1, fr, out, by go_num, rfl, HO, HB, .inl ⟨by omega, HI4⟩⟩, by simp [intOf]; omega⟩
    · subst hi
      have hn1 : ¬ ((s.size + 1 : Nat) : Int) ≤ (s.size : Int) := by omega
      have ho := HO.out
      rw [HW.out] at ho
      have HO4 := Lib.hid ho
      clear ho
      go_wp2_with fail
      go_ret
      exact ⟨_, rfl, HO4.out, HB.out⟩
set_option maxRecDepth 100000 in
set_option maxHeartbeats 1000000 in
theorem rnumber_any (s : ByteArray) (w : World) (hs : s.size ≤ maxLen) :
    Calls Tryz.prog 50 #[.string s] w fun e w' => e = .returned (.tuple #[.int .i64 (numI s), .bool (numB s)]) ∧ w' = w := by
  unfold maxLen at hs
  by_cases h1 : 1 ≤ s.size
  · by_cases h15 : s.size ≤ 15
    · obtain ⟨c0, hc0⟩ : ∃ c, s[0]'(by omega) = c := ⟨_, rfl⟩
      have p1 : ¬ (s.size : Int) < 1 := by omega
      have p2 : ¬ (15 : Int) < (s.size : Int) := by omega
      have p3 : (0 : Int) < (s.size : Int) := by omega
      by_cases hn : nought s = true
      · have HB := Lib.hid (show numB s = false by unfold numB; rw [hn]; simp)
        have hn2 : 1 < s.size ∧ c0.toNat = 48 := by
          unfold nought at hn
          split at hn
          · rename_i h; rw [hc0] at hn; exact ⟨h, of_decide_eq_true hn⟩
          · cases hn
        obtain ⟨q1, q2⟩ := hn2
        have q3 : (1 : Int) < (s.size : Int) := by omega
        have q4 : (c0.toNat : Int) = 48 := by omega
        go_enter Tryz.func50, Tryz.ntmps50
        go_wp2_with fail
        go_ret2
        exact ⟨by rw [HB.out, numI_no HB.out]; rfl, rfl⟩
      · have HNN := Lib.hid (show nought s = false by simpa using hn)
        have hor : (c0.toNat = 48 ∧ ¬ 1 < s.size) ∨ c0.toNat ≠ 48 := by
          by_cases h : c0.toNat = 48
          · refine .inl ⟨h, fun h2 => hn ?_⟩
            unfold nought
            rw [dif_pos h2, hc0]
            exact decide_eq_true h
          · exact .inr h
        clear hn
        rcases hor with ⟨q1, q2⟩ | q1
        · have q3 : (c0.toNat : Int) = 48 := by omega
          have q4 : ¬ (1 : Int) < (s.size : Int) := by omega
          clear q1 q2
          go_enter Tryz.func50, Tryz.ntmps50
          go_wp2_with fail
          go_loopw [4, 5] (fun n i wr => ∃ k : Nat, k ≤ s.size ∧ i = .int .i64 k ∧ n = .int .i64 (numN (s.data.toList.take k) : Nat) ∧ Hid ((s.data.toList.take k).all digB = true) ∧ wr = w) (fun _ i _ => s.size - (intOf i).toNat)
          case atStart => exact ⟨0, Nat.zero_le _, rfl, rfl, Lib.hid rfl, rfl⟩
          case round =>
            obtain ⟨k, hk, rfl, rfl, hall, rfl⟩ := hrel
            obtain ⟨v, hv⟩ : ∃ v, numN (s.data.toList.take k) = v := ⟨_, rfl⟩
            rw [hv]
            have HV := Lib.hid hv
            clear hv
            by_cases hlt : k < s.size
            · obtain ⟨c, hc⟩ : ∃ c, s[k] = c := ⟨_, rfl⟩
              have HC := Lib.hid hc
              have hlt2 : (k : Int) < (s.size : Int) := by omega
              have hk0 : (0 : Int) ≤ (k : Int) := by omega
              by_cases hlo : (c.toNat : Int) < 48
              · have HB := Lib.hid (numB_bad hlt (show digB s[k] = false by rw [HC.out]; unfold digB; rw [decide_eq_false (by omega)]; rfl))
                go_wp2_with fail
                go_ret2
                exact ⟨by rw [HB.out, numI_no HB.out]; rfl, rfl⟩
              · by_cases hhi : (57 : Int) < (c.toNat : Int)
                · have HB := Lib.hid (numB_bad hlt (show digB s[k] = false by rw [HC.out]; unfold digB; rw [decide_eq_false (show ¬ c.toNat ≤ 57 by omega), Bool.and_false]))
                  go_wp2_with fail
                  go_ret2
                  exact ⟨by rw [HB.out, numI_no HB.out]; rfl, rfl⟩
                · have hv14 : v < 100000000000000 := by rw [← HV.out]; exact numN_14 hk (by omega) hall.out
                  have HD := Lib.hid (show (s.data.toList.take (k + 1)).all digB = true by
                    rw [take_snocU s k hlt, List.all_append, hall.out, HC.out]
                    have : digB c = true := by unfold digB; rw [decide_eq_true (show 48 ≤ c.toNat by omega), decide_eq_true (show c.toNat ≤ 57 by omega)]; rfl
                    simp [this])
                  obtain ⟨d, hd, hd9⟩ : ∃ d : Nat, c.toNat = d + 48 ∧ d ≤ 9 := ⟨c.toNat - 48, by omega, by omega⟩
                  have HS := Lib.hid (show numN (s.data.toList.take (k + 1)) = 10 * v + d by rw [take_snocU s k hlt, numN_snoc, HV.out, HC.out, hd, Nat.add_sub_cancel])
                  have e1 : IntKind.u8.wrap ((c.toNat : Int) - 48) = (d : Int) := by rw [IntWalk.u8_in _ (by omega)]; omega
                  have e2 : IntKind.i64.wrap (10 * (v : Int)) = 10 * (v : Int) := IntWalk.i64_in _ (by omega)
                  have e3 : IntKind.i64.wrap (d : Int) = (d : Int) := IntWalk.i64_in _ (by omega)
                  have e4 : IntKind.i64.wrap (10 * (v : Int) + (d : Int)) = 10 * (v : Int) + (d : Int) := IntWalk.i64_in _ (by omega)
                  clear hd hall
                  go_wp2_with fail
                  exact ⟨⟨k + 1, by omega, by go_num, by rw [HS.out]; push_cast; rfl, HD, trivial⟩, by simp [intOf]; omega⟩
            · obtain rfl : k = s.size := by omega
              have hn9 : ¬ (s.size : Int) < (s.size : Int) := by omega
              have hd : s.data.toList.all digB = true := by
                have := hall.out
                rwa [List.take_of_length_le (by simp)] at this
              have HB := Lib.hid (show numB s = true by unfold numB; rw [decide_eq_true h1, decide_eq_true h15, HNN.out, hd]; rfl)
              have HVV := Lib.hid (show numN s.data.toList = v by rw [← HV.out, List.take_of_length_le (by simp)])
              clear hd
              go_wp2_with fail
              go_ret2
              exact ⟨by rw [HB.out, numI_yes HB.out, HVV.out]; rfl, rfl⟩
        · have q3 : ¬ (c0.toNat : Int) = 48 := by omega
          clear q1
          go_enter Tryz.func50, Tryz.ntmps50
          go_wp2_with fail
          go_loopw [4, 5] (fun n i wr => ∃ k : Nat, k ≤ s.size ∧ i = .int .i64 k ∧ n = .int .i64 (numN (s.data.toList.take k) : Nat) ∧ Hid ((s.data.toList.take k).all digB = true) ∧ wr = w) (fun _ i _ => s.size - (intOf i).toNat)
          case atStart => exact ⟨0, Nat.zero_le _, rfl, rfl, Lib.hid rfl, rfl⟩
          case round =>
            obtain ⟨k, hk, rfl, rfl, hall, rfl⟩ := hrel
            obtain ⟨v, hv⟩ : ∃ v, numN (s.data.toList.take k) = v := ⟨_, rfl⟩
            rw [hv]
            have HV := Lib.hid hv
            clear hv
            by_cases hlt : k < s.size
            · obtain ⟨c, hc⟩ : ∃ c, s[k] = c := ⟨_, rfl⟩
              have HC := Lib.hid hc
              have hlt2 : (k : Int) < (s.size : Int) := by omega
              have hk0 : (0 : Int) ≤ (k : Int) := by omega
              by_cases hlo : (c.toNat : Int) < 48
              · have HB := Lib.hid (numB_bad hlt (show digB s[k] = false by rw [HC.out]; unfold digB; rw [decide_eq_false (by omega)]; rfl))
                go_wp2_with fail
                go_ret2
                exact ⟨by rw [HB.out, numI_no HB.out]; rfl, rfl⟩
              · by_cases hhi : (57 : Int) < (c.toNat : Int)
                · have HB := Lib.hid (numB_bad hlt (show digB s[k] = false by rw [HC.out]; unfold digB; rw [decide_eq_false (show ¬ c.toNat ≤ 57 by omega), Bool.and_false]))
                  go_wp2_with fail
                  go_ret2
                  exact ⟨by rw [HB.out, numI_no HB.out]; rfl, rfl⟩
                · have hv14 : v < 100000000000000 := by rw [← HV.out]; exact numN_14 hk (by omega) hall.out
                  have HD := Lib.hid (show (s.data.toList.take (k + 1)).all digB = true by
                    rw [take_snocU s k hlt, List.all_append, hall.out, HC.out]
                    have : digB c = true := by unfold digB; rw [decide_eq_true (show 48 ≤ c.toNat by omega), decide_eq_true (show c.toNat ≤ 57 by omega)]; rfl
                    simp [this])
                  obtain ⟨d, hd, hd9⟩ : ∃ d : Nat, c.toNat = d + 48 ∧ d ≤ 9 := ⟨c.toNat - 48, by omega, by omega⟩
                  have HS := Lib.hid (show numN (s.data.toList.take (k + 1)) = 10 * v + d by rw [take_snocU s k hlt, numN_snoc, HV.out, HC.out, hd, Nat.add_sub_cancel])
                  have e1 : IntKind.u8.wrap ((c.toNat : Int) - 48) = (d : Int) := by rw [IntWalk.u8_in _ (by omega)]; omega
                  have e2 : IntKind.i64.wrap (10 * (v : Int)) = 10 * (v : Int) := IntWalk.i64_in _ (by omega)
                  have e3 : IntKind.i64.wrap (d : Int) = (d : Int) := IntWalk.i64_in _ (by omega)
                  have e4 : IntKind.i64.wrap (10 * (v : Int) + (d : Int)) = 10 * (v : Int) + (d : Int) := IntWalk.i64_in _ (by omega)
                  clear hd hall
                  go_wp2_with fail
                  exact ⟨⟨k + 1, by omega, by go_num, by rw [HS.out]; push_cast; rfl, HD, trivial⟩, by simp [intOf]; omega⟩
            · obtain rfl : k = s.size := by omega
              have hn9 : ¬ (s.size : Int) < (s.size : Int) := by omega
              have hd : s.data.toList.all digB = true := by
                have := hall.out
                rwa [List.take_of_length_le (by simp)] at this
              have HB := Lib.hid (show numB s = true by unfold numB; rw [decide_eq_true h1, decide_eq_true h15, HNN.out, hd]; rfl)
              have HVV := Lib.hid (show numN s.data.toList = v by rw [← HV.out, List.take_of_length_le (by simp)])
              clear hd
              go_wp2_with fail
              go_ret2
              exact ⟨by rw [HB.out, numI_yes HB.out, HVV.out]; rfl, rfl⟩
    · have HB := Lib.hid (show numB s = false by unfold numB; rw [decide_eq_false h15]; simp)
      have p1 : ¬ (s.size : Int) < 1 := by omega
      have p2 : (15 : Int) < (s.size : Int) := by omega
      go_enter Tryz.func50, Tryz.ntmps50
      go_wp2_with fail
      go_ret2
      exact ⟨by rw [HB.out, numI_no HB.out]; rfl, rfl⟩
  · have HB := Lib.hid (show numB s = false by unfold numB; rw [decide_eq_false h1]; simp)
    have p1 : (s.size : Int) < 1 := by omega
    go_enter Tryz.func50, Tryz.ntmps50
    go_wp2_with fail
    go_ret2
    exact ⟨by rw [HB.out, numI_no HB.out]; rfl, rfl⟩
theorem toldB_dig {e : Nat} (he : e ≠ 0) : toldB e = ⟨#[101, 114, 114, 111, 114, 32]⟩ ++ digS e := by unfold toldB digS; rw [if_neg he]
set_option maxRecDepth 100000 in
set_option maxHeartbeats 1000000 in
theorem rtold_is (e : Int) (w : World) (h0 : 0 ≤ e) (h1 : e < 100) : Calls Tryz.prog 51 #[.int .i64 e] w fun r w' => r = .returned (.string (toldI e)) ∧ Bel w w' := by
  obtain ⟨n, rfl⟩ := Int.eq_ofNat_of_zero_le h0
  by_cases hn : n = 0
  · subst hn
    go_enter Tryz.func51, Tryz.ntmps51
    go_wp2_with fail
    go_ret
    exact ⟨rfl, Bel.refl _⟩
  · have hT := Lib.hid (show toldI (n : Int) = ⟨#[101, 114, 114, 111, 114, 32]⟩ ++ digS n from toldB_dig hn)
    have hn1 : ((n : Int) == 0) = false := by simp; omega
    have hz := digS_size n
    obtain ⟨D, hD⟩ : ∃ D, digS n = D := ⟨_, rfl⟩
    rw [hD] at hz hT
    have HDD := Lib.hid hD
    have h3 : ¬ 9223372036854775807 < 6 + D.size := by omega
    clear hD
    go_enter Tryz.func51, Tryz.ntmps51
    go_wp2_with fail
    refine (digits_any n w (by omega)).mono ?_
    rintro _ w1 ⟨rfl, hb⟩
    rw [HDD.out]
    have HB := Lib.hid hb
    clear hb
    go_wp2_with fail
    go_ret
    exact ⟨by rw [hT.out]; rfl, HB.out⟩
end Go.Proofs.YteockodnfempfaaGreatDoor
