/- AuditLogs returns true, walked. Conditions: those named in each theorem. -/
import Derived.Test.YteockodnfempfaaAudM
import Derived.Test.YteockodnfempfaaRg4
namespace Go.Proofs.Yteockodnfempfaa
open Go Go.RowKit Go.Gv

theorem prefixB_comm (a b : List GEntry) : prefixB a b = prefixB b a := by
  unfold prefixB
  rw [Nat.min_comm, Bool.eq_iff_iff, decide_eq_true_eq, decide_eq_true_eq]
  exact eq_comm
theorem prefixB_self (a : List GEntry) : prefixB a a = true := by unfold prefixB; simp
theorem same_prefix (a b : List GEntry) : sameB (a.take (min a.length b.length)) (b.take (min a.length b.length)) = prefixB a b := rfl
theorem all_agree (ls : List (List GEntry)) : (ls.all fun a => ls.all fun b => prefixB a b) = agreeB ls := by
  rw [Bool.eq_iff_iff, agreeB_iff]
  simp only [List.all_eq_true]
  constructor
  · intro h i j a b hi hj _
    exact h a (List.mem_of_getElem? hi) b (List.mem_of_getElem? hj)
  · intro h a ha b hb
    obtain ⟨i, hi⟩ := List.getElem?_of_mem ha
    obtain ⟨j, hj⟩ := List.getElem?_of_mem hb
    rcases Nat.lt_trichotomy i j with hij | hij | hij
    · rw [prefixB_comm]; exact h j i b a hj hi hij
    · subst hij; rw [hi] at hj; injection hj with hj; subst hj; exact prefixB_self a
    · exact h i j a b hi hj hij
theorem all_take {α : Type} {ls : List α} {i : Nat} {l : α} (f : α → Bool) (h : ls[i]? = some l) : (ls.take (i + 1)).all f = ((ls.take i).all f && f l) := by
  rw [nodup_step h, List.all_append]; simp
def freshB (l : List GEntry) (x : GEntry) (j : Nat) : Bool := (l.take j).all fun a => !decide (a.name = x.name)
theorem onceB_step {l : List GEntry} {p : Nat} {x : GEntry} (h : l[p]? = some x) : onceB (l.take (p + 1)) = (onceB (l.take p) && freshB l x p) := by
  unfold onceB freshB
  rw [nodup_step h, List.map_append, Bool.eq_iff_iff, Bool.and_eq_true, decide_eq_true_eq, decide_eq_true_eq, List.nodup_append, List.all_eq_true]
  simp only [List.map_cons, List.map_nil, List.mem_singleton, List.mem_map, Bool.not_eq_true', decide_eq_false_iff_not]
  constructor
  · rintro ⟨h1, _, h3⟩
    exact ⟨h1, fun a ha e => h3 _ ⟨a, ha, rfl⟩ _ rfl e⟩
  · rintro ⟨h1, h2⟩
    refine ⟨h1, by simp, ?_⟩
    rintro _ ⟨a, ha, rfl⟩ _ rfl
    exact h2 a ha
theorem risingB_step {l : List GEntry} {p : Nat} {x y : GEntry} (hx : l[p + 1]? = some x) (hy : l[p]? = some y) : risingB (l.take (p + 1 + 1)) = (risingB (l.take (p + 1)) && riseB y x) := by
  have hxl := (List.getElem?_eq_some_iff.1 hx).1
  rw [Bool.eq_iff_iff, Bool.and_eq_true, risingB_iff, risingB_iff]
  constructor
  · intro h
    refine ⟨fun k a b ha hb => ?_, h p y x (by rw [List.getElem?_take_of_lt (by omega)]; exact hy) (by rw [List.getElem?_take_of_lt (by omega)]; exact hx)⟩
    have hk := (List.getElem?_eq_some_iff.1 hb).1
    simp at hk
    rw [List.getElem?_take_of_lt (by omega)] at ha hb
    exact h k a b (by rw [List.getElem?_take_of_lt (by omega)]; exact ha) (by rw [List.getElem?_take_of_lt (by omega)]; exact hb)
  · rintro ⟨h1, h2⟩ k a b ha hb
    have hk := (List.getElem?_eq_some_iff.1 hb).1
    simp at hk
    rw [List.getElem?_take_of_lt (by omega)] at ha hb
    by_cases e : k = p
    · subst e; rw [hy] at ha; rw [hx] at hb; injection ha with ha; injection hb with hb; subst ha; subst hb; exact h2
    · exact h1 k a b (by rw [List.getElem?_take_of_lt (by omega)]; exact ha) (by rw [List.getElem?_take_of_lt (by omega)]; exact hb)
theorem lessB_before (a b : GName) : lessB a b = decide (beforeI a b < 0) := by
  unfold lessB beforeI orI cmpI
  by_cases h1 : a.client < b.client
  · simp [h1]
  · by_cases h2 : b.client < a.client
    · have : a.client ≠ b.client := by omega
      simp [h1, h2, this]
    · have e : a.client = b.client := by omega
      by_cases h3 : a.seq < b.seq
      · simp [e, h3]
      · by_cases h4 : b.seq < a.seq
        · simp [e, h3, h4]
        · simp [e, h3, h4]
theorem riseB_less (a b : GEntry) : riseB a b = (decide (a.time < b.time) || (decide (b.time = a.time) && lessB a.name b.name)) := by
  rw [lessB_before]; rfl

theorem same_is (r : Bool) (A B : Option Addr) (n m c d : Nat) (xs ys : List GEntry) (w : World) (B0 : Nat) (hr : sameB xs ys = r) (hx : Sl GEntry w B0 A n xs) (hy : Sl GEntry w B0 B m ys) (hn : n ≤ maxLen) (hm : m ≤ maxLen) :
    Calls Try.prog 29 #[.slice A n c, .slice B m d] w fun e w' => e = .returned (.bool r) ∧ GB w w' := by
  subst hr
  refine (sameEntry_any A B n m c d xs ys w B0 hx hy hn hm).mono ?_
  rintro e w' ⟨h1, q, rfl⟩
  exact ⟨h1, GB.drewN w q⟩
theorem prefix_G (r : Bool) (A B : Option Addr) (n m c d : Nat) (xs ys : List GEntry) (w : World) (B0 : Nat) (hr : prefixB xs ys = r) (hx : Sl GEntry w B0 A n xs) (hy : Sl GEntry w B0 B m ys) (hn : n ≤ maxLen) (hm : m ≤ maxLen) :
    Calls Try.prog 23 #[.slice A n c, .slice B m d] w fun e w' => e = .returned (.bool r) ∧ GB w w' := by
  refine (prefix_is r A B n m c d xs ys w B0 hr hx hy hn hm).mono ?_
  rintro e w' ⟨h1, q, rfl⟩
  exact ⟨h1, GB.drewN w q⟩
/-- A list of at most eight entries, apart from block ob. -/
def RowIs (w : World) (ob : Option Nat) (v : Value) : Prop := ∃ (A : Option Addr) (q c : Nat) (la : List GEntry), v = .slice A q c ∧ la.length = q ∧ q ≤ 8 ∧ Sl GEntry w w.heap.size A q la ∧ q ≤ c ∧ c ≤ maxLen ∧ (0 < q → ∀ ad, A = some ad → ob ≠ some ad.block)
theorem RowIs.step {w w' : World} {ob : Option Nat} {v : Value} (h : RowIs w ob v) (hb : Bel w w') : RowIs w' ob v := by
  obtain ⟨A, q, c, la, h1, h2, h3, h4, h5⟩ := h
  exact ⟨A, q, c, la, h1, h2, h3, h4.stepB hb, h5⟩
theorem OwnRows.lt {α : Type} [Enc α] {w : World} {base : Nat} {e : TypeId} {v : Value} {ls : List (List α)} (h : OwnRows α w base e v ls) : ∀ k, v.ownBlock = some k → k < w.heap.size := by
  obtain ⟨hs, ho, _⟩ := h
  exact fun k hk => (ho.lt k hk).2
theorem rowIs_own {w : World} {base : Nat} {ob : Option Nat} {v : Value} {la : List GEntry} (ho : OwnS w base 30 v la) (h8 : la.length ≤ 8) (hob : ∀ k, ob = some k → k < base) : RowIs w ob v := by
  obtain ⟨A, c, rfl, hs, hc, hm, hf⟩ := OwnS.shape ho
  exact ⟨A, la.length, c, la, rfl, rfl, h8, hs, hc, hm, fun _ ad ha e => by have := (hf ad ha).1; have := hob _ e; omega⟩
/-- The lists that AuditLogs makes. -/
def LogsMade (w0 w : World) (v : Value) (k : Nat) : Prop := ∃ ls : List (List GEntry), OwnRows GEntry w w0.heap.size 22 v ls ∧ ls.length = k ∧ (∀ l ∈ ls, l.length ≤ 8) ∧ Bel w0 w

def TestIs (k n1 : Nat) (w1 : World) (v : Value) (wx : World) : Prop := ∃ b, v = .bool b ∧ (b = true → 0 < k ∧ k < n1) ∧ Bel w1 wx

set_option maxRecDepth 100000 in
set_option maxHeartbeats 20000000 in
theorem auditLogs_any (A0 A1 : Option Addr) (n0 c0 n1 c1 : Nat) (Ls : List (List GEntry)) (cs : List I64) (w : World) (hx : InLogs w A0 n0 Ls) (hn0 : n0 ≤ maxLen)
    (hcs : Sl I64 w w.heap.size A1 n1 cs) (hoc : ∀ x ∈ cs, FitI .i64 x.v) (hn1 : n1 ≤ maxLen) :
    Calls Try.prog 6 #[.slice A0 n0 c0, .slice A1 n1 c1] w fun e w' => e = .returned (.bool true) ∧ Below w.heap.size w w' := by
  unfold maxLen at hn0 hn1
  have H0 := Lib.hid hx; have H2 := Lib.hid hcs; have HO2 := Lib.hid hoc
  clear hx hcs hoc
  go_enter Try.func6, Try.ntmps6
  go_upto_block 0 with fail
  go_cut [5, 7] (fun v _ wx => ∃ k, k ≤ 4 ∧ LogsMade w wx v k)
  case first =>
    go_wp2_with fail
    go_loopw [5, 7] (fun v i wr => ∃ (k : Nat), k ≤ n0 ∧ k ≤ 4 ∧ i = .int .i64 k ∧ LogsMade w wr v k) (fun _ i _ => 4 - (intOf i).toNat)
    case atStart => exact ⟨0, by omega, by omega, rfl, [], OwnRows.nil _ _ _, rfl, by simp, Bel.refl _⟩
    case round =>
      obtain ⟨k, hk, hk4, rfl, hmade⟩ := hrel
      obtain ⟨wo, rfl⟩ : ∃ wo : World, wo = wr := ⟨_, rfl⟩
      have HM := Lib.hid hmade; clear hmade
      by_cases hlt : k < n0 ∧ k < 4
      · obtain ⟨hlt, hlt4⟩ := hlt
        obtain ⟨ls, hown, hlen, hl8, hb⟩ := HM.out
        obtain ⟨ad, A3, n3, c3, l, rfl, hab, hlk, hc, hsl, hdl, hdc⟩ := (H0.out.1.stepB hb).at_ (k := k) hlt
        obtain ⟨A6, c6, hv6, hc6, hm6⟩ := hown.ownA
        rw [hlen] at hv6 hc6
        subst hv6
        unfold maxLen at hm6
        have HOK := Lib.hid (H0.out.2 l (List.mem_of_getElem? hlk)); have HS := Lib.hid hsl; have HO := Lib.hid hown; have HB := Lib.hid hb; have HL8 := Lib.hid hl8; have HLEN := Lib.hid hlen
        clear hlk hsl hown hb hl8 hlen HM
        obtain ⟨la, hla⟩ : ∃ la, smallL l = la := ⟨_, rfl⟩
        have h8 : la.length ≤ 8 := by rw [← hla]; simp [smallL]; omega
        have HA := Lib.hid hla; clear hla
        go_wp2_with fail
        refine (small_is A3 n3 c3 l la wo _ HA.out HS.out (Nat.le_refl _) HOK.out (by omega)).mono ?_
        rintro _ w1 ⟨A4, c4, rfl, ho4, hb4, hc4, hm4⟩
        have hrow : RowIs w1 (Value.slice A6 k c6).ownBlock (.slice A4 la.length c4) := rowIs_own ho4 h8 (HO.out.lt)
        have HR := Lib.hid hrow; have HO1 := Lib.hid (HO.out.step hb4); have HB1 := Lib.hid (HB.out.step hb4)
        obtain ⟨q, hq⟩ : ∃ q, la.length = q := ⟨_, rfl⟩
        simp only [hq] at HR ⊢
        clear hrow HO HB hb4 ho4 hc4 hm4 h8 HA hq hc HS HOK
        go_upto_region 7 with fail
        go_cut [49] (fun v wx => TestIs k n1 w1 v wx)
        case first =>
          by_cases hk0 : 0 < k
          · by_cases hk1 : k < n1
            · obtain ⟨ad1, x, rfl, _, hxk, hgx⟩ := (H2.out.stepB HB1.out).at_ (k := k) hk1
              have hc1 := getI hgx
              simp only [show Enc.n I64 = 1 from rfl, Nat.mul_one] at hc1
              have hfx := FitI.i64 (HO2.out x (List.mem_of_getElem? hxk))
              obtain ⟨hfx1, hfx2⟩ := hfx
              clear hxk hgx
              go_wp2
              go_meet
              exact ⟨_, rfl, (fun _ => ⟨hk0, hk1⟩), Bel.refl _⟩
            · go_wp2
              go_meet
              exact ⟨_, rfl, (fun h => by cases h), Bel.refl _⟩
          · go_wp2
            go_meet
            exact ⟨_, rfl, (fun h => by cases h), Bel.refl _⟩
        case rest =>
          obtain ⟨b, rfl, hbk, hbx⟩ := hcut
          obtain ⟨w2, rfl⟩ : ∃ w2 : World, w2 = wc := ⟨_, rfl⟩
          replace HR := Lib.hid (HR.out.step hbx); replace HO1 := Lib.hid (HO1.out.step hbx); replace HB1 := Lib.hid (HB1.out.trans hbx)
          have HBK := Lib.hid hbk
          clear hbx hbk
          go_upto_if 49 with (fail)
          go_cut [8] (fun v wx => RowIs wx (Value.slice A6 k c6).ownBlock v ∧ Bel w2 wx)
          case first =>
            cases b
            · go_wp2
              go_meet
              exact ⟨HR.out, Bel.refl _⟩
            · obtain ⟨hk0, hk1⟩ := HBK.out rfl
              obtain ⟨ad1, x, rfl, _, hxk, hgx⟩ := (H2.out.stepB HB1.out).at_ (k := k) hk1
              have hc1 := getI hgx
              simp only [show Enc.n I64 = 1 from rfl, Nat.mul_one] at hc1
              have hfx := FitI.i64 (HO2.out x (List.mem_of_getElem? hxk))
              obtain ⟨hfx1, hfx2⟩ := hfx
              obtain ⟨ad0, A7, n7, c7, l0, rfl, _, hl0, hc0, hsl0, hn7, hm7⟩ := HO1.out.logs.at_ (k := 0) hk0
              have h87 := HL8.out l0 (List.mem_of_getElem? hl0)
              rw [hsl0.1] at h87
              obtain ⟨m, hm, hml⟩ : ∃ m : Nat, within x.v ((n7 : Int) + 1) = (m : Int) ∧ m ≤ n7 := by
                unfold within
                rw [if_neg (by omega)]
                have h1 := Int.emod_nonneg x.v (b := (n7 : Int) + 1) (by omega)
                have h2 := Int.emod_lt_of_pos x.v (b := (n7 : Int) + 1) (by omega)
                exact ⟨(x.v % ((n7 : Int) + 1)).toNat, by omega, by omega⟩
              have HMM := Lib.hid hm; have HS0 := Lib.hid hsl0
              unfold maxLen at hm7
              clear hxk hgx hm hsl0 hl0
              simp only [Addr.add_zero'] at hc0
              go_wp2
              refine wp_region_G GB [] GB.rf (by kernel_rfl) ?_
              refine wpG_looks 2 16 [0,1,2,3,4,5,6,7,8,9,10,11,12,13] rfl GB.rf GB.tr (by kernel_rfl) (fun _ _ _ _ hd h => And.intro (hd ▸ And.left h) (And.right h)) rfl (by kernel_rfl) ?_
              intro ι W hne CW
              have g0 : ∀ z, (W z).cell? (ad1.add k) = some (.int .i64 x.v) := fun z => (CW.out z).cell hc1
              have g1 : ∀ z, (W z).cell? ad0 = some (.slice A7 n7 c7) := fun z => (CW.out z).cell hc0
              have hmc : m ≤ c7 := by omega
              have hmc2 : (m : Int) ≤ (c7 : Int) := by omega
              have hm0 : (0 : Int) ≤ (m : Int) := by omega
              have hwi := Lib.hid fun W => within_is x.v ((n7 : Int) + 1) m W HMM.out (by omega) (by omega) (by omega)
              have hwr : IntKind.i64.wrap ((n7 : Int) + 1) = (n7 : Int) + 1 := IntWalk.i64_in _ (by omega)
              repeat (refine wpLooksG_step (fun K hK => ?_); go_simp; refine hK _ ?_; clear hK K)
              refine wpLooksG_step (fun K hK => ?_); go_simp
              refine ⟨_, fun z => quietG (hwi.out (W z)) (fun _ _ h => h), hK _ ?_⟩
              clear hwr
              clear hK K
              repeat (refine wpLooksG_step (fun K hK => ?_); go_simp; refine hK _ ?_; clear hK K)
              refine wpLooksG_nil ?_
              clear g0 g1 CW hne W ι
              refine wpG_force 14 _ rfl (by kernel_rfl) rfl fun wa hwa K hK => ?_
              go_simp
              refine (copyEntry_any A7 m c7 (l0.take m) wa _ ((HS0.out.stepB hwa.undrew).take (by omega)) (by omega)).mono ?_
              rintro _ wb ⟨v, rfl, ho, hb⟩
              refine hK _ _ (fun _ => hb) ?_
              clear hK K
              refine wpG_force 15 _ rfl (by kernel_rfl) rfl fun wd hwd K hK => ?_
              have hrow2 : RowIs wd (Value.slice (some ad0) k c6).ownBlock v := (rowIs_own ho (by rw [List.length_take, HS0.out.1]; omega) (fun j hj => by have := HO1.out.lt j hj; have := Below.size hwa; simp at this; omega)).step hwd
              have HR2 := Lib.hid hrow2; have HB2 := Lib.hid ((hwa.undrew.trans hb).trans hwd)
              clear hrow2 ho hb hwa hwd
              go_simp
              refine hK _ _ (fun _ => GB.rf _) ?_
              clear hK K
              refine wpG_end (by kernel_rfl) (fun wn hwn => ?_) _
              have HR3 := Lib.hid (HR2.out.step hwn); have HB3 := Lib.hid (HB2.out.trans hwn)
              clear hwn
              go_wp2
              go_meet
              exact ⟨HR3.out, HB3.out⟩
          case rest =>
            obtain ⟨⟨A5, q5, c5, la5, rfl, hq5, hq8, hsl5, hc5, hm5, hdis⟩, hbx⟩ := hcut
            obtain ⟨w4, rfl⟩ : ∃ w4 : World, w4 = wc := ⟨_, rfl⟩
            obtain ⟨hs1, ho1, hr1⟩ := HO1.out.step hbx
            have hlen1 : hs1.length = k := by rw [hr1.len, HLEN.out]
            have hB := HB1.out.trans hbx
            have HRW := Lib.hid (show Sl GEntry w4 w4.heap.size A5 q5 la5 ∧ q5 ≤ c5 ∧ c5 ≤ maxLen ∧ (0 < q5 → ∀ ad, A5 = some ad → (Value.slice A6 k c6).ownBlock ≠ some ad.block) from ⟨hsl5, hc5, hm5, hdis⟩)
            have HO4 := Lib.hid ho1; have HR4 := Lib.hid hr1; have HB4 := Lib.hid hB; have HL1 := Lib.hid hlen1; have HQ5 := Lib.hid hq5
            clear ho1 hr1 hB hlen1 hsl5 hdis hbx hq5 hc5 hm5
            go_wp2
            generalize hrun : Sem.run _ (gAppend _ _ _) _ = rr
            obtain ⟨v', w', rfl, ho, hg, hob⟩ := append_spec hrun ei39 (HO4.out.alloc _) (Sl.new_ (B := w4.heap.size + 1) (xs := [(⟨A5, q5, c5⟩ : Hdr)]) (by rw [List.flatMap_cons, List.flatMap_nil, List.append_nil]; rfl) rfl rfl (by omega)) (by rw [HL1.out]; unfold maxLen; omega) (by rw [HL1.out]; omega) (by have := HB4.out.size; simp; omega)
            clear hrun
            have hal : Below w4.heap.size w4 (w4.alloc (.cells #[.slice A5 q5 c5] 22)) := (Below.refl _ _).alloc (Nat.le_refl _) _
            have hnew := OwnRows.snoc (l := la5) (h := ⟨A5, q5, c5⟩) (HR4.out.step hal) ⟨HRW.out.1.stepB hal, HRW.out.2⟩ ho hg hob
            have hbel : Bel w w' := (HB4.out.alloc _).appS hg (HO4.out.alloc _) (Nat.le_refl _)
            have hmade : LogsMade w w' v' (k + 1) := ⟨_, hnew, by rw [List.length_append, HLEN.out]; rfl, by
              intro l hl
              rw [List.mem_append, List.mem_singleton] at hl
              rcases hl with hl | rfl
              · exact HL8.out l hl
              · rw [HQ5.out]; exact hq8, hbel⟩
            have HM2 := Lib.hid hmade
            clear hnew hbel ho hg hob hal hmade
            go_wp2
            exact ⟨⟨k + 1, by omega, by omega, by simp, HM2.out⟩, by simp [intOf]; omega⟩
      · by_cases hlt0 : k < n0
        · have h4 : ¬ k < 4 := fun h => hlt ⟨hlt0, h⟩
          go_wp2
          go_meet
          exact ⟨k, hk4, HM.out⟩
        · go_wp2
          go_meet
          exact ⟨k, hk4, HM.out⟩
  case rest =>
    obtain ⟨n3, hn3, LS, hown, hlen, hl8, hb⟩ := hcut
    obtain ⟨w3, rfl⟩ : ∃ w3 : World, w3 = wc := ⟨_, rfl⟩
    obtain ⟨A3, c3, hv3, hc3, hm3⟩ := hown.ownA
    rw [hlen] at hv3 hc3
    subst hv3
    unfold maxLen at hm3
    have HR := Lib.hid hown.logs; have HN := Lib.hid hlen; have HL8 := Lib.hid hl8; have HB := Lib.hid hb
    clear hown hlen hl8 hb
    go_wp2_with fail
    go_loopw [6, 71] (fun f i wr => ∃ (k : Nat) (F : Bool), k ≤ n3 ∧ i = .int .i64 k ∧ f = .bool F ∧ F = ((LS.take k).all fun a => LS.all fun b => prefixB a b) ∧ Bel w3 wr) (fun _ i _ => n3 - (intOf i).toNat)
    case atStart => exact ⟨0, true, by omega, rfl, rfl, rfl, Bel.refl _⟩
    case round =>
      obtain ⟨k, F, hk, rfl, rfl, hF, hb⟩ := hrel
      have HF := Lib.hid hF; have HB1 := Lib.hid hb; clear hF hb
      obtain ⟨wo, rfl⟩ : ∃ wo : World, wo = wr := ⟨_, rfl⟩
      by_cases hlt : k < n3
      · obtain ⟨ad, A4, n4, c4, l, rfl, hab, hlk, hc, hsl, hdl, hdc⟩ := (HR.out.stepB HB1.out).at_ (k := k) hlt
        have hl8 := HL8.out l (List.mem_of_getElem? hlk)
        rw [hsl.1] at hl8
        have HL := Lib.hid hlk; have HSL := Lib.hid hsl; clear hlk hsl
        unfold maxLen at hdc
        go_upto_block 4 with fail
        go_cut [6, 76] (fun f _ wx => f = .bool (F && LS.all fun b => prefixB l b) ∧ Bel wo wx)
        case first =>
          go_wp2_with fail
          go_loopw [6, 76] (fun f i wr => ∃ (p : Nat) (F2 : Bool), p ≤ n3 ∧ i = .int .i64 p ∧ f = .bool F2 ∧ F2 = (F && (LS.take p).all fun b => prefixB l b) ∧ Bel wo wr) (fun _ i _ => n3 - (intOf i).toNat)
          case atStart => exact ⟨0, F, by omega, rfl, rfl, by simp, Bel.refl _⟩
          case round =>
            obtain ⟨p, F2, hp, rfl, rfl, hF2, hb2⟩ := hrel
            have HF2 := Lib.hid hF2; have HB2 := Lib.hid hb2; clear hF2 hb2
            obtain ⟨wm, rfl⟩ : ∃ wm : World, wm = wr := ⟨_, rfl⟩
            by_cases hlp : p < n3
            · obtain ⟨ad', A5, n5, c5, l2, hade, _, hlk2, hcc, hsl2, hdl2, hdc2⟩ := (HR.out.stepB (HB1.out.trans HB2.out)).at_ (k := p) hlp
              injection hade with hade; subst hade
              have h82 := HL8.out l2 (List.mem_of_getElem? hlk2)
              rw [hsl2.1] at h82
              have HL2 := Lib.hid hlk2; have HSL2 := Lib.hid hsl2; have HSL1 := Lib.hid (HSL.out.stepB HB2.out); clear hlk2 hsl2
              unfold maxLen at hdc2
              have hcm := GB.cell HB2.out hc
              obtain ⟨m, hm⟩ : ∃ m, min n4 n5 = m := ⟨_, rfl⟩
              have hm4 : m ≤ n4 := by omega
              have hm5 : m ≤ n5 := by omega
              have hmc4 : m ≤ c4 := by omega
              have hmc5 : m ≤ c5 := by omega
              have hi4 : (m : Int) ≤ (c4 : Int) := by omega
              have hi5 : (m : Int) ≤ (c5 : Int) := by omega
              have hi0 : (0 : Int) ≤ (m : Int) := by omega
              obtain ⟨c, hcp⟩ : ∃ c, prefixB l l2 = c := ⟨_, rfl⟩
              have hsame : sameB (l.take m) (l2.take m) = c := by rw [← hcp, ← same_prefix, HSL1.out.1, HSL2.out.1, hm]
              have hstep : (F2 && c) = (F && (LS.take (p + 1)).all fun b => prefixB l b) := by rw [all_take _ HL2.out, hcp, HF2.out, Bool.and_assoc]
              have HM := Lib.hid hm; have HCP := Lib.hid hcp; have HSA := Lib.hid hsame; have HST := Lib.hid hstep
              clear hm hcp hsame hstep
              go_wp2
              refine wp_region_G GB [] GB.rf (by kernel_rfl) ?_
              refine wpG_looks 0 12 [0,1,2,3,4,5,6,7,8,9,10,11] rfl GB.rf GB.tr (by kernel_rfl) (fun _ _ _ _ hd h => And.intro (hd ▸ And.left h) (And.right h)) rfl (by kernel_rfl) ?_
              intro ι W hne CW
              have g0 : ∀ z, (W z).cell? (ad.add k) = some (.slice A4 n4 c4) := fun z => (CW.out z).cell hcm
              have g1 : ∀ z, (W z).cell? (ad.add p) = some (.slice A5 n5 c5) := fun z => (CW.out z).cell hcc
              have g2 := HM.out
              repeat (refine wpLooksG_step (fun K hK => ?_); go_simp; refine hK _ ?_; clear hK K)
              refine wpLooksG_nil ?_
              clear g0 g1 g2 CW hne W ι
              refine wpG_end (by kernel_rfl) (fun wa hwa => ?_) _
              have HBA := Lib.hid hwa.undrew
              have hcm2 := GB.cell HBA.out hcm
              have hcc2 := GB.cell HBA.out hcc
              clear hwa
              go_wp2
              refine wp_region_G GB [] GB.rf (by kernel_rfl) ?_
              refine wpG_looks 0 14 [0,1,2,3,4,5,6,7,8,9,10,11,12,13] rfl GB.rf GB.tr (by kernel_rfl) (fun _ _ _ _ hd h => And.intro (hd ▸ And.left h) (And.right h)) rfl (by kernel_rfl) ?_
              intro ι W hne CW
              have g0 : ∀ z, (W z).cell? (ad.add k) = some (.slice A4 n4 c4) := fun z => (CW.out z).cell hcm2
              have g1 : ∀ z, (W z).cell? (ad.add p) = some (.slice A5 n5 c5) := fun z => (CW.out z).cell hcc2
              repeat (refine wpLooksG_step (fun K hK => ?_); go_simp; refine hK _ ?_; clear hK K)
              refine wpLooksG_step (fun K hK => ?_); go_simp
              refine ⟨_, fun z => same_is c A4 A5 m m c4 c5 (l.take m) (l2.take m) (W z) _ HSA.out ((HSL1.out.stepB (HBA.out.trans (CW.out z).undrew)).take hm4) ((HSL2.out.stepB (HBA.out.trans (CW.out z).undrew)).take hm5) (by unfold maxLen; omega) (by unfold maxLen; omega), hK _ ?_⟩
              clear hK K
              repeat (refine wpLooksG_step (fun K hK => ?_); go_simp; refine hK _ ?_; clear hK K)
              refine wpLooksG_nil ?_
              clear g0 g1 CW hne W ι
              refine wpG_end (by kernel_rfl) (fun wb hwb => ?_) _
              have HBB := Lib.hid (HBA.out.trans hwb.undrew)
              have hcm3 := GB.cell HBB.out hcm
              have hcc3 := GB.cell HBB.out hcc
              clear hwb hcm2 hcc2
              cases F2 <;> cases c
              all_goals
                go_wp2
                refine wp_region_G GB [] GB.rf (by kernel_rfl) ?_
                refine wpG_looks 0 11 [0,1,2,3,4,5,6,7,8,9,10] rfl GB.rf GB.tr (by kernel_rfl) (fun _ _ _ _ hd h => And.intro (hd ▸ And.left h) (And.right h)) rfl (by kernel_rfl) ?_
                intro ι W hne CW
                have g0 : ∀ z, (W z).cell? (ad.add k) = some (.slice A4 n4 c4) := fun z => (CW.out z).cell hcm3
                have g1 : ∀ z, (W z).cell? (ad.add p) = some (.slice A5 n5 c5) := fun z => (CW.out z).cell hcc3
                repeat (refine wpLooksG_step (fun K hK => ?_); go_simp; refine hK _ ?_; clear hK K)
                refine wpLooksG_step (fun K hK => ?_); go_simp
                refine ⟨_, fun z => prefix_G _ A4 A5 n4 n5 c4 c5 l l2 (W z) _ HCP.out (HSL1.out.stepB (HBB.out.trans (CW.out z).undrew)) (HSL2.out.stepB (HBB.out.trans (CW.out z).undrew)) (by unfold maxLen; omega) (by unfold maxLen; omega), hK _ ?_⟩
                clear hK K
                repeat (refine wpLooksG_step (fun K hK => ?_); go_simp; refine hK _ ?_; clear hK K)
                refine wpLooksG_nil ?_
                clear g0 g1 CW hne W ι
                refine wpG_end (by kernel_rfl) (fun wd hwd => ?_) _
                have HBD := Lib.hid (HB2.out.trans (HBB.out.trans hwd.undrew))
                clear hwd
                go_wp2
                go_roundw
                case rel => exact ⟨p + 1, _, by omega, by go_num, rfl, HST.out, HBD.out⟩
                case measure => simp [intOf] <;> omega
            · have HE := Lib.hid (show F2 = (F && LS.all fun b => prefixB l b) by rw [HF2.out, List.take_of_length_le (by rw [HN.out]; omega)])
              go_wp2
              go_meet
              exact ⟨by rw [HE.out], HB2.out⟩
        case rest =>
          obtain ⟨rfl, hbx⟩ := hcut
          obtain ⟨w5, rfl⟩ : ∃ w5 : World, w5 = wc := ⟨_, rfl⟩
          have HB3 := Lib.hid (HB1.out.trans hbx)
          have HSL5 := Lib.hid (HSL.out.stepB hbx)
          have hc5 := GB.cell hbx hc
          obtain ⟨F2, hF2⟩ : ∃ F2, (F && LS.all fun b => prefixB l b) = F2 := ⟨_, rfl⟩
          have HF2 := Lib.hid (show F2 = (LS.take (k + 1)).all fun a => LS.all fun b => prefixB a b by rw [all_take _ HL.out, ← HF.out, hF2])
          rw [hF2]
          clear hF2 hbx hc
          go_upto_block 6 with fail
          go_cut [13, 14, 124] (fun a b _ wx => a = .bool (onceB l) ∧ b = .bool (risingB l) ∧ Bel w5 wx)
          case first =>
            go_wp2_with fail
            go_loopw [13, 14, 124] (fun a b i wr => ∃ (p : Nat) (F1 F3 : Bool), p ≤ n4 ∧ i = .int .i64 p ∧ a = .bool F1 ∧ b = .bool F3 ∧ F1 = onceB (l.take p) ∧ F3 = risingB (l.take p) ∧ Bel w5 wr) (fun _ _ i _ => n4 - (intOf i).toNat)
            case atStart => exact ⟨0, true, true, by omega, rfl, rfl, rfl, by simp [onceB], by simp [risingB], Bel.refl _⟩
            case round =>
              obtain ⟨p, F1, F3, hp, rfl, rfl, rfl, hF1, hF3, hb2⟩ := hrel
              have HF1 := Lib.hid hF1; have HF3 := Lib.hid hF3; have HB2 := Lib.hid hb2; clear hF1 hF3 hb2
              obtain ⟨wm, rfl⟩ : ∃ wm : World, wm = wr := ⟨_, rfl⟩
              by_cases hlp : p < n4
              · obtain ⟨ae, x, rfl, haeb, hxk, hgx⟩ := (HSL5.out.stepB HB2.out).at_ (k := p) hlp
                have HXK := Lib.hid hxk; clear hxk
                change get? GEntry wm (ae.add (p * 35)) = some x at hgx
                have hnw := Lib.hid (nw30 wm wm.heap.size x rfl)
                go_upto_block 7 with fail
                go_cut [13, 14] (fun a b wx => a = .bool (onceB (l.take (p + 1))) ∧ b = .bool (risingB (l.take (p + 1))) ∧ Bel wm wx)
                case rest =>
                  obtain ⟨rfl, rfl, hbx⟩ := hcut
                  have HBX := Lib.hid (HB2.out.trans hbx)
                  clear hbx
                  go_wp2
                  go_roundw
                  case rel => exact ⟨p + 1, _, _, by omega, by go_num, rfl, rfl, rfl, rfl, HBX.out⟩
                  case measure => simp [intOf] <;> omega
                case first =>
                  go_upto_block 8 with fail
                  go_cut [13, 17] (fun a _ wx => a = .bool (F1 && freshB l x p) ∧ Bel wm wx ∧ get? GEntry wx ⟨wm.heap.size, 0, none⟩ = some x)
                  case first =>
                    go_wp2_with fail
                    go_loopw [13, 17] (fun a i wr => ∃ (j : Nat) (F : Bool), j ≤ p ∧ i = .int .i64 j ∧ a = .bool F ∧ F = (F1 && freshB l x j) ∧ Bel wm wr ∧ get? GEntry wr ⟨wm.heap.size, 0, none⟩ = some x) (fun _ i _ => p - (intOf i).toNat)
                    case atStart => exact ⟨0, F1, by omega, rfl, rfl, by simp [freshB], (Bel.refl _).alloc _, hnw.out⟩
                    case round =>
                      obtain ⟨j, F4, hj, rfl, rfl, hF4, hb3, hgb⟩ := hrel
                      have HF4 := Lib.hid hF4; have HB4 := Lib.hid hb3; clear hF4 hb3
                      by_cases hlj : j < p
                      · have hj4 : j < n4 := by omega
                        obtain ⟨ae', a, hae', _, hak, hga⟩ := (HSL5.out.stepB (HB2.out.trans HB4.out)).at_ (k := j) hj4
                        obtain rfl : ae = ae' := by injection hae'
                        change get? GEntry wr (ae.add (j * 35)) = some a at hga
                        have hga2 : get? GName wr (ae.add (j * 35)) = some a.name := by have := GEntry.at_name hga; simpa [Addr.add] using this
                        have hgb2 : get? GName wr ⟨wm.heap.size, 0, none⟩ = some x.name := by have := GEntry.at_name hgb; simpa [Addr.add] using this
                        have hc6 := GB.cell (HB2.out.trans HB4.out) hc5
                        have hstep : (F4 && !decide (a.name = x.name)) = (F1 && freshB l x (j + 1)) := by
                          rw [show freshB l x (j + 1) = (freshB l x j && !decide (a.name = x.name)) from all_take _ hak, HF4.out, Bool.and_assoc]
                        have HST := Lib.hid (show ∀ b, b = (F4 && !decide (a.name = x.name)) → b = (F1 && freshB l x (j + 1)) from fun b hb => hb.trans hstep)
                        clear hga hak hae' hstep HF4
                        cases F4
                        case false =>
                          clear hga2 hgb2 hc6
                          go_wp2
                          go_quiet (fail)
                          go_wp2
                          go_roundw
                          case rel => exact ⟨j + 1, _, by omega, by go_num, rfl, HST.out _ rfl, HB4.out.drewN _, (get?_drewN _).trans hgb⟩
                          case measure => simp [intOf] <;> omega
                        case true =>
                          go_wp2
                          refine wp_region_G GB [] GB.rf (by kernel_rfl) ?_
                          refine wpG_looks 0 15 [0,1,2,3,4,5,6,7,8,9,10,11,12,13,14] rfl GB.rf GB.tr (by kernel_rfl) (fun _ _ _ _ hd h => And.intro (hd ▸ And.left h) (And.right h)) rfl (by kernel_rfl) ?_
                          intro ι W hne CW
                          have g0 : ∀ z, (W z).cell? (ad.add k) = some (.slice (some ae) n4 c4) := fun z => (CW.out z).cell hc6
                          have g1 : ∀ z, get? GName (W z) (ae.add (j * 35)) = some a.name := fun z => (CW.out z).get hga2
                          have g2 : ∀ z, get? GName (W z) ⟨wm.heap.size, 0, none⟩ = some x.name := fun z => (CW.out z).get hgb2
                          repeat (refine wpLooksG_step (fun K hK => ?_); go_simp; refine hK _ ?_; clear hK K)
                          refine wpLooksG_nil ?_
                          clear g0 g1 g2 CW hne W ι
                          refine wpG_end (by kernel_rfl) (fun wd hwd => ?_) _
                          have HBD := Lib.hid (HB4.out.trans hwd.undrew)
                          have hgd := GB.get hwd.undrew hgb
                          clear hwd
                          go_wp2
                          go_roundw
                          case rel => exact ⟨j + 1, _, by omega, by go_num, rfl, HST.out _ rfl, HBD.out, hgd⟩
                          case measure => simp [intOf] <;> omega
                      · have HE := Lib.hid (show F4 = (F1 && freshB l x p) by rw [HF4.out]; congr 2; omega)
                        go_wp2
                        go_meet
                        exact ⟨by rw [HE.out], HB4.out, hgb⟩
                  case rest =>
                    obtain ⟨rfl, hbx, hgb⟩ := hcut
                    obtain ⟨w6, rfl⟩ : ∃ w6 : World, w6 = wc := ⟨_, rfl⟩
                    obtain ⟨F5, hF5⟩ : ∃ F5, (F1 && freshB l x p) = F5 := ⟨_, rfl⟩
                    have HF5 := Lib.hid (show F5 = onceB (l.take (p + 1)) by rw [onceB_step HXK.out, ← HF1.out, hF5])
                    have HB6 := Lib.hid (HB2.out.trans hbx)
                    have HBW := Lib.hid hbx
                    have hc7 := GB.cell HB6.out hc5
                    rw [hF5]
                    clear hF5 hbx hgx hnw
                    by_cases hp0 : p = 0
                    · subst hp0
                      have hF : F3 = risingB (l.take (0 + 1)) := by
                        rw [HF3.out]
                        cases l <;> rfl
                      have HF := Lib.hid hF; clear hF
                      go_wp2
                      go_meet
                      exact ⟨by rw [HF5.out], by rw [HF.out], HBW.out⟩
                    · obtain ⟨j, rfl⟩ : ∃ j, p = j + 1 := ⟨p - 1, by omega⟩
                      obtain ⟨ae', y, hae', hab', hyk, hgy⟩ := (HSL5.out.stepB HB6.out).at_ (k := j) (by omega)
                      obtain rfl : ae = ae' := by injection hae'
                      change get? GEntry w6 (ae.add (j * 35)) = some y at hgy
                      have hstep : (F3 && riseB y x) = risingB (l.take (j + 1 + 1)) := by rw [risingB_step HXK.out hyk, HF3.out]
                      have HST := Lib.hid hstep
                      have hw1 := wrap_nat (j := j) (by omega)
                      have hj1 : (j : Int) < (n4 : Int) := by omega
                      have hnw := Lib.hid (nw30 w6 w6.heap.size y rfl)
                      clear hae' hyk hstep hp0 hnw
                      have hxt0 : w6.cell? ⟨wm.heap.size, 34, none⟩ = some (.int .u64 x.time) := by
                        have h := GEntry.at_time hgb
                        rwa [add_zeroA] at h
                      have hxn0 : get? GName w6 ⟨wm.heap.size, 0, none⟩ = some x.name := by have := GEntry.at_name hgb; simpa [Addr.add] using this
                      have hxt : ∀ o, (w6.alloc o).cell? ⟨wm.heap.size, 34, none⟩ = some (.int .u64 x.time) := fun o => GB.cell (GB.al w6 o) hxt0
                      have hxn : ∀ o, get? GName (w6.alloc o) ⟨wm.heap.size, 0, none⟩ = some x.name := fun o => GB.get (GB.al w6 o) hxn0
                      have HBA := Lib.hid (HBW.out.alloc (.cells (GEntry.enc y).toArray 30))
                      clear hxt0 hxn0 hgb
                      cases F3
                      · have HE := Lib.hid (show false = risingB (l.take (j + 1 + 1)) by rw [← HST.out]; rfl)
                        go_wp2
                        go_meet
                        exact ⟨by rw [HF5.out], by rw [← HE.out], HBA.out⟩
                      · by_cases h1 : y.time < x.time
                        · have HE := Lib.hid (show true = risingB (l.take (j + 1 + 1)) by rw [← HST.out, riseB_less]; simp [h1])
                          go_wp2
                          go_meet
                          exact ⟨by rw [HF5.out], by rw [← HE.out], HBA.out⟩
                        · by_cases h2 : x.time = y.time
                          · have h2b : (x.time == y.time) = true := by simp [h2]
                            obtain ⟨c, hcl⟩ : ∃ c, lessB y.name x.name = c := ⟨_, rfl⟩
                            have HE := Lib.hid (show c = risingB (l.take (j + 1 + 1)) by rw [← HST.out, riseB_less, hcl, h2]; simp)
                            have HCL := Lib.hid hcl
                            clear hcl h2
                            go_wp2_with fail
                            refine (less_any y.name x.name _).mono ?_
                            rintro _ w8 ⟨rfl, hb8⟩
                            rw [HCL.out]
                            have HB8 := Lib.hid (HBA.out.step hb8)
                            clear hb8
                            cases c
                            all_goals
                              go_wp2
                              go_meet
                              exact ⟨by rw [HF5.out], by rw [← HE.out], HB8.out⟩
                          · have h2b : (x.time == y.time) = false := by simp [h2]
                            have HE := Lib.hid (show false = risingB (l.take (j + 1 + 1)) by rw [← HST.out, riseB_less]; simp [h1, h2])
                            go_wp2
                            go_meet
                            exact ⟨by rw [HF5.out], by rw [← HE.out], HBA.out⟩
              · have HE1 := Lib.hid (show F1 = onceB l by rw [HF1.out, List.take_of_length_le (by rw [HSL5.out.1]; omega)])
                have HE2 := Lib.hid (show F3 = risingB l by rw [HF3.out, List.take_of_length_le (by rw [HSL5.out.1]; omega)])
                go_wp2
                go_meet
                exact ⟨by rw [HE1.out], by rw [HE2.out], HB2.out⟩
          case rest =>
            obtain ⟨rfl, rfl, hbx⟩ := hcut
            obtain ⟨w7, rfl⟩ : ∃ w7 : World, w7 = wc := ⟨_, rfl⟩
            have HB7 := Lib.hid (HB3.out.trans hbx)
            have HSL7 := Lib.hid (HSL5.out.stepB hbx)
            have hc7 := GB.cell hbx hc5
            obtain ⟨r1, hr1⟩ : ∃ r, onceB l = r := ⟨_, rfl⟩
            obtain ⟨r2, hr2⟩ : ∃ r, risingB l = r := ⟨_, rfl⟩
            have HR1 := Lib.hid hr1; have HR2 := Lib.hid hr2
            rw [hr1, hr2]
            clear hr1 hr2 hbx hc5
            go_wp2_with fail
            refine (once_is r1 A4 n4 c4 l _ HR1.out HSL7.out (by unfold maxLen; omega)).mono ?_
            rintro _ w8 ⟨rfl, hb8⟩
            have HB8 := Lib.hid (HB7.out.step hb8)
            have HSL8 := Lib.hid (HSL7.out.stepB hb8)
            have hc8 := GB.cell hb8 hc7
            clear hb8 hc7
            cases r1 <;> cases r2
            all_goals
              go_wp2_with fail
              refine (rising_is _ A4 n4 c4 l _ HR2.out HSL8.out (by unfold maxLen; omega)).mono ?_
              rintro _ w9 ⟨rfl, hb9⟩
              have HB9 := Lib.hid (HB8.out.step hb9)
              clear hb9
              go_wp2
              go_roundw
              case rel => exact ⟨k + 1, F2, by omega, by go_num, rfl, HF2.out, HB9.out⟩
              case measure => simp [intOf] <;> omega
      · obtain ⟨c, hcA⟩ : ∃ c, agreeB LS = c := ⟨_, rfl⟩
        have HE := Lib.hid (show F = c by rw [HF.out, List.take_of_length_le (by rw [HN.out]; omega), all_agree, hcA])
        have HCA := Lib.hid hcA
        clear hcA
        obtain rfl : F = c := HE.out
        go_wp2_with fail
        refine (agree_any A3 n3 c3 LS wo _ (HR.out.stepB HB1.out) hc3 (by unfold maxLen; omega)).mono ?_
        rintro _ _ ⟨rfl, m9, rfl⟩
        rw [HCA.out]
        have HB9 := Lib.hid (HB.out.trans (HB1.out.drewN m9))
        cases F
        all_goals
          go_wp2_with fail
          refine (wakes_any _).mono ?_
          rintro _ wy ⟨rfl, hb⟩; have HBY := Lib.hid (HB9.out.step hb); clear hb
          go_wp2_with fail
          go_ret
          exact ⟨rfl, HBY.out⟩
theorem auditLogs_in (A0 A1 : Option Addr) (n0 c0 n1 c1 : Nat) (x0 : List Hdr) (cs : List I64) (w : World) (hx0 : Sl Hdr w w.heap.size A0 n0 x0) (ho0 : ∀ x ∈ x0, SlOk w GEntry (ok30 w) x) (hn0 : n0 ≤ maxLen)
    (hcs : Sl I64 w w.heap.size A1 n1 cs) (hoc : ∀ x ∈ cs, FitI .i64 x.v) (hn1 : n1 ≤ maxLen) :
    Calls Try.prog 6 #[.slice A0 n0 c0, .slice A1 n1 c1] w fun e w' => e = .returned (.bool true) ∧ Below w.heap.size w w' := by
  obtain ⟨Ls, hLs⟩ := inLogs_of hx0 ho0
  exact auditLogs_any A0 A1 n0 c0 n1 c1 Ls cs w hLs hn0 hcs hoc hn1
end Go.Proofs.Yteockodnfempfaa
