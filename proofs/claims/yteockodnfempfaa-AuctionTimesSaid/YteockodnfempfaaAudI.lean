/- AuditGrows returns true, walked. Conditions: those named in each theorem. -/
import Derived.Test.YteockodnfempfaaAudH
namespace Go.Proofs.Yteockodnfempfaa
open Go Go.RowKit Go.Gv

/-- Slices of the call's own, by their address. -/
def OwnA {α : Type} [Enc α] (w : World) (base : Nat) (e : TypeId) (A : Option Addr) (c : Nat) (xs : List α) : Prop := OwnS w base e (.slice A xs.length c) xs
section
variable {α : Type} [Enc α] {w w' : World} {base B : Nat} {e t : TypeId} {A : Option Addr} {c : Nat} {xs ys : List α} {P : Program}
theorem OwnS.ownA {v : Value} (h : OwnS w base e v xs) : ∃ A c, v = .slice A xs.length c ∧ OwnA w base e A c xs ∧ xs.length ≤ c ∧ c ≤ maxLen := by
  obtain ⟨A, c, rfl, _, h1, h2, _⟩ := h.shape
  exact ⟨A, c, rfl, h, h1, h2⟩
theorem OwnA.sl (h : OwnA w base e A c xs) : Sl α w w.heap.size A xs.length xs := by
  obtain ⟨A', c', hv, hs, _⟩ := OwnS.shape h
  injection hv with h1 h2 h3; subst h1; exact hs
theorem OwnA.below (h : OwnA w base e A c xs) (hb : Below w.heap.size w w') : OwnA w' base e A c xs := OwnS.below h hb (Nat.le_refl _)
end

theorem entry_time (x : GEntry) (t : Int) : Enc.enc (⟨x.name, x.hash, t⟩ : GEntry) = (Enc.enc x).set 34 (.int .u64 t) := by
  change GEntry.enc _ = (GEntry.enc x).set 34 _
  unfold GEntry.enc
  rw [List.set_append_right _ _ (by rw [GName.enc_len]; omega), List.set_append_right _ _ (by rw [GHash.enc_len, GName.enc_len]; omega), GName.enc_len, GHash.enc_len]
  rfl
theorem flat_set {α : Type} [Enc α] {x y : α} {j : Nat} {v : Value} (hj : j < Enc.n α) (hy : Enc.enc y = (Enc.enc x).set j v) :
    ∀ (xs : List α) (k : Nat), xs[k]? = some x → (xs.flatMap Enc.enc).set (k * Enc.n α + j) v = (xs.set k y).flatMap Enc.enc
  | [], k, h => by simp at h
  | z :: xs, 0, h => by
    simp at h; subst h
    rw [List.flatMap_cons, List.set_cons_zero, List.flatMap_cons, hy, Nat.zero_mul, Nat.zero_add, List.set_append_left _ _ (by rw [Enc.len]; exact hj)]
  | z :: xs, k + 1, h => by
    have e : (k + 1) * Enc.n α + j - (Enc.enc z).length = k * Enc.n α + j := by rw [Enc.len, Nat.add_mul]; omega
    rw [List.flatMap_cons, List.set_cons_succ, List.flatMap_cons, List.set_append_right _ _ (by rw [Enc.len, Nat.add_mul]; omega), e, flat_set hj hy xs k (by simpa using h)]
theorem OwnA.poke {α : Type} [Enc α] {w : World} {base e c g k j : Nat} {xs : List α} {x y : α} {v : Value} (h : OwnA w base e (some ⟨g, 0, none⟩) c xs) (hk : xs[k]? = some x) (hj : j < Enc.n α) (hy : Enc.enc y = (Enc.enc x).set j v) :
    OwnA (w.setCell ⟨g, k * Enc.n α + j, none⟩ v) base e (some ⟨g, 0, none⟩) c (xs.set k y) := by
  rcases h with ⟨h0, ⟨h1, _⟩ | ⟨g', cap, cur, h1, h2, h3, h4, h5, h6, h7⟩⟩
  · cases h1
  · injection h1 with h1 _ h1c; injection h1 with h1; injection h1 with h1; subst h1; subst h1c
    have hh := heap_setCell_same w g (k * Enc.n α + j) cur e v h3
    refine ⟨by rw [flat_len, List.length_set], .inr ⟨g, c, _, by rw [List.length_set], h2, hh, by rw [List.length_set]; exact h4, h5, by simpa using h6, ?_⟩⟩
    rw [List.length_set, Array.toList_setIfInBounds, List.take_set, h7, flat_set hj hy xs k hk]
theorem add_zeroA (g n : Nat) : (⟨g, 0, none⟩ : Addr).add n = ⟨g, n, none⟩ := by unfold Addr.add; split <;> simp_all

theorem _root_.Go.Gv.Sl.step {α : Type} [Enc α] {w w' : World} {A : Option Addr} {n : Nat} {xs : List α} (h : Sl α w w.heap.size A n xs) (hb : Below w.heap.size w w') : Sl α w' w'.heap.size A n xs := (h.below hb).more hb.size

theorem prefixB_takes (l : List GEntry) (i j : Nat) : prefixB (l.take i) (l.take j) = true := by
  unfold prefixB
  rw [decide_eq_true_eq, List.take_take, List.take_take, List.length_take, List.length_take]
  congr 1; omega
theorem prefixB_of {l a b : List GEntry} {i j : Nat} (ha : a = l.take i) (hb : b = l.take j) : prefixB a b = true := by rw [ha, hb]; exact prefixB_takes l i j
theorem agreeB_takes (l : List GEntry) (ls : List (List GEntry)) (h : ∀ a ∈ ls, ∃ k, a = l.take k) : agreeB ls = true := by
  rw [agreeB_iff]
  intro i j a b hi hj _
  obtain ⟨k, rfl⟩ := h a (List.mem_of_getElem? hi)
  obtain ⟨k2, rfl⟩ := h b (List.mem_of_getElem? hj)
  exact prefixB_takes l k k2

theorem small_is (A : Option Addr) (n c : Nat) (xs la : List GEntry) (w : World) (B : Nat) (has : smallL xs = la) (hx : Sl GEntry w B A n xs) (hB : B ≤ w.heap.size) (hok : ∀ x ∈ xs, EntryOk x) (hn : n ≤ maxLen) :
    Calls Try.prog 21 #[.slice A n c] w fun e w' => ∃ A' c', e = .returned (.slice A' la.length c') ∧ OwnA w' w.heap.size 30 A' c' la ∧ Below w.heap.size w w' ∧ la.length ≤ c' ∧ c' ≤ maxLen := by
  subst has
  refine (small_any A n c xs w (hx.more hB) hok hn).mono ?_
  rintro _ w' ⟨v, rfl, ho, hb⟩
  obtain ⟨A', c', rfl, h1, h2, h3⟩ := OwnS.ownA ho
  exact ⟨A', c', rfl, h1, hb, h2, h3⟩
theorem copyEntry_is (A : Option Addr) (c : Nat) (xs : List GEntry) (w : World) (B : Nat) (hx : Sl GEntry w B A xs.length xs) (hn : xs.length * 56 ≤ 140737488355328) :
    Calls Try.prog 22 #[.slice A xs.length c] w fun e w' => ∃ A' c', e = .returned (.slice A' xs.length c') ∧ OwnA w' w.heap.size 30 A' c' xs ∧ Below w.heap.size w w' ∧ xs.length ≤ c' ∧ c' ≤ maxLen := by
  refine (copyEntry_any A xs.length c xs w B hx hn).mono ?_
  rintro _ w' ⟨v, rfl, ho, hb⟩
  obtain ⟨A', c', rfl, h1, h2, h3⟩ := OwnS.ownA ho
  exact ⟨A', c', rfl, h1, hb, h2, h3⟩

def Logs2 (w : World) (B : Nat) : List Hdr → List (List GEntry) → Prop
  | [], [] => True
  | h :: hs, l :: ls => (Sl GEntry w B h.a h.len l ∧ h.len ≤ h.cap ∧ h.cap ≤ maxLen) ∧ Logs2 w B hs ls
  | _, _ => False
theorem Logs2.len {w : World} {B : Nat} : ∀ {hs : List Hdr} {ls : List (List GEntry)}, Logs2 w B hs ls → hs.length = ls.length
  | [], [], _ => rfl
  | _ :: hs, _ :: ls, h => by simp [Logs2.len h.2]
  | [], _ :: _, h => h.elim
  | _ :: _, [], h => h.elim
theorem Logs2.get {w : World} {B : Nat} : ∀ {hs : List Hdr} {ls : List (List GEntry)}, Logs2 w B hs ls → ∀ (i : Nat) (h : Hdr) (l : List GEntry), hs[i]? = some h → ls[i]? = some l → Sl GEntry w B h.a h.len l ∧ h.len ≤ h.cap ∧ h.cap ≤ maxLen
  | [], [], _, i, h, l, h1, _ => by simp at h1
  | x :: hs, y :: ls, H, 0, h, l, h1, h2 => by
    simp at h1 h2; subst h1; subst h2; exact H.1
  | x :: hs, y :: ls, H, i + 1, h, l, h1, h2 => Logs2.get H.2 i h l (by simpa using h1) (by simpa using h2)
theorem LogsIs.new {w : World} {B n p : Nat} {t : TypeId} {cs : Array Value} {hs : List Hdr} {ls : List (List GEntry)} (h : Logs2 w B hs ls) (hB : B ≤ w.heap.size) (hcs : cs.toList = hs.flatMap Enc.enc) (hn : hs.length = n) (hp : p = w.heap.size) :
    LogsIs (w.alloc (.cells cs t)) (w.heap.size + 1) (some ⟨p, 0, none⟩) n ls :=
  ⟨hs, Sl.new_ hcs hn hp (by omega), h.len, fun i hd l h1 h2 => by
    obtain ⟨a, b, c⟩ := h.get i hd l h1 h2
    exact ⟨((a.below ((Below.refl _ _).alloc hB _))).more (by omega), b, c⟩⟩

set_option maxRecDepth 100000 in
set_option maxHeartbeats 2000000 in
theorem grows_any (A B : Option Addr) (n c m d : Nat) (xs ys : List GEntry) (at_ : Int) (w : World) (hx : Sl GEntry w w.heap.size A n xs) (hy : Sl GEntry w w.heap.size B m ys) (hox : ∀ x ∈ xs, EntryOk x) (hoy : ∀ x ∈ ys, EntryOk x) (hn : n ≤ maxLen) (hm : m ≤ maxLen)
    (ha : -9223372036854775808 ≤ at_) (ha2 : at_ ≤ 9223372036854775807) :
    Calls Try.prog 3 #[.slice A n c, .slice B m d, .int .i64 at_] w fun e w' => e = .returned (.bool true) ∧ Below w.heap.size w w' := by
  unfold maxLen at hn hm
  have H := Lib.hid hx; have H2 := Lib.hid hy; clear hx hy
  obtain ⟨la, has⟩ : ∃ la, smallL xs = la := ⟨_, rfl⟩
  obtain ⟨lb, hbs⟩ : ∃ lb, smallL ys = lb := ⟨_, rfl⟩
  have hlen1 : la.length ≤ 8 := by rw [← has]; simp [smallL]; omega
  have hlen2 : lb.length ≤ 8 := by rw [← hbs]; simp [smallL]; omega
  have htime : ∀ x ∈ la, 0 ≤ x.time ∧ x.time ≤ 3 := by
    intro x hx
    rw [← has] at hx
    simp only [smallL, List.mem_map] at hx
    obtain ⟨e, he, rfl⟩ := hx
    have h0 := (hox e (List.mem_of_mem_take he)).2.2.1
    simp only [smallE]
    have := Int.tmod_eq_emod_of_nonneg h0 (b := 4)
    omega
  have HAS := Lib.hid has; have HBS := Lib.hid hbs; clear has hbs
  have HOX := Lib.hid hox; have HOY := Lib.hid hoy; have HTM := Lib.hid htime; clear hox hoy htime
  go_enter Try.func3, Try.ntmps3
  go_wp2_with fail
  refine (small_is A n c xs la w _ HAS.out H.out (Nat.le_refl _) HOX.out hn).mono ?_
  rintro _ w1 ⟨A1, c1, rfl, ho1, hb1, hc1, hm1⟩
  have HO1 := Lib.hid ho1; have HB1 := Lib.hid hb1; clear ho1 hb1
  go_wp2_with fail
  refine (small_is B m d ys lb w1 _ HBS.out (H2.out.below HB1.out) HB1.out.size HOY.out hm).mono ?_
  rintro _ w2 ⟨A2, c2, rfl, ho2, hb2, hc2, hm2⟩
  have HO2 := Lib.hid ho2; have HB2 := Lib.hid hb2; clear ho2 hb2
  go_wp2_with fail
  have hS1 := HO1.out.sl.step HB2.out
  have hS2 := HO2.out.sl
  refine (copyEntry_is A1 c1 la w2 _ hS1 (by omega)).mono ?_
  rintro _ w3 ⟨A3, c3, rfl, ho3, hb3, hc3, hm3⟩
  obtain ⟨lc, hlc⟩ : ∃ lc, la ++ lb = lc := ⟨_, rfl⟩
  obtain ⟨v4, w4, hrun4, ho4, hg4, _⟩ := gAppend_S (P := Try.prog) ei22 (t := 22) ho3 (c := c2) (hS2.step hb3) (by unfold maxLen; omega) (by omega) hb3.size 22
  have hb4 := Gv.Below.appS hb3 hg4 ho3 (Nat.le_refl _) hb3.size
  have hl4 : lc.length ≤ 16 := by rw [← hlc]; simp; omega
  rw [hlc] at ho4
  have HLT := Lib.hid (show la = lc.take la.length by rw [← hlc]; simp)
  have HLS := Lib.hid (show lc = lc.take lc.length by simp)
  have HLC := Lib.hid hlc; clear hlc
  obtain ⟨A4, c4, rfl, ho4', hc4, hm4⟩ := OwnS.ownA ho4
  have S1 := Lib.hid (hS1.step hb4); have S4 := Lib.hid ho4'.sl
  have HB4 := Lib.hid ((HB1.out.trans (HB2.out.mono HB1.out.size)).trans (hb4.mono (by have := HB1.out.size; have := HB2.out.size; omega)))
  clear ho4 ho4' hb4 hg4 ho3 hb3 hS1 hS2 HB1 HB2 HO1 HO2
  go_wp2_with fail
  refine (prefix_is true A1 A4 _ _ _ _ la lc w4 w4.heap.size ?p1 S1.out S4.out (by unfold maxLen; omega) (by unfold maxLen; omega)).mono ?_
  case p1 => exact prefixB_of HLT.out HLS.out
  rintro _ _ ⟨rfl, m5, rfl⟩
  go_wp2_with fail
  refine (prefix_is true A4 A1 _ _ _ _ lc la _ w4.heap.size ?p1 (S4.out.drewN_ _) (S1.out.drewN_ _) (by unfold maxLen; omega) (by unfold maxLen; omega)).mono ?_
  case p1 => exact prefixB_of HLS.out HLT.out
  rintro _ _ ⟨rfl, m6, rfl⟩
  go_wp2_with fail
  have hlg := LogsIs.new (w := w4.drewN (m5 + m6)) (t := 22) (cs := #[.slice A1 la.length c1, .slice A4 lc.length c4, .slice none 0 0, .slice A4 lc.length c4]) (n := 4) (p := w4.heap.size)
    (hs := [⟨A1, la.length, c1⟩, ⟨A4, lc.length, c4⟩, ⟨none, 0, 0⟩, ⟨A4, lc.length, c4⟩]) (ls := [la, lc, [], lc])
    ⟨⟨S1.out.drewN_ _, hc1, hm1⟩, ⟨S4.out.drewN_ _, hc4, hm4⟩, ⟨Sl.nil, by simp, by simp⟩, ⟨S4.out.drewN_ _, hc4, hm4⟩, trivial⟩ (Nat.le_refl _) rfl rfl rfl
  refine (agree_any _ _ _ _ _ _ hlg (by omega) (by unfold maxLen; omega)).mono ?_
  rintro _ _ ⟨rfl, m7, rfl⟩
  rw [agreeB_takes lc [la, lc, [], lc] (by
    intro a ha
    simp only [List.mem_cons, List.not_mem_nil, or_false] at ha
    rcases ha with h | h | h | h
    · exact ⟨_, h.trans HLT.out⟩
    · exact ⟨_, h.trans HLS.out⟩
    · exact ⟨0, by rw [h]; rfl⟩
    · exact ⟨_, h.trans HLS.out⟩)]
  obtain ⟨w5, hw5⟩ : ∃ w5, (w4.drewN (m5 + m6)).alloc (Obj.cells #[.slice A1 la.length c1, .slice A4 lc.length c4, .slice none 0 0, .slice A4 lc.length c4] 22) = w5 := ⟨_, rfl⟩
  have hb5 : Below w4.heap.size w4 w5 := by rw [← hw5]; exact (bdN (Below.refl _ _) _).alloc (Nat.le_refl _) _
  have hs1 := S1.out.step hb5; have hs4 := S4.out.step hb5
  have hb5' := HB4.out.trans (hb5.mono HB4.out.size)
  simp only [hw5]
  clear hw5 hlg S1 S4 HB4 hb5
  have S1 := Lib.hid hs1; have S4 := Lib.hid hs4; have HB5 := Lib.hid hb5'; clear hs1 hs4 hb5'
  by_cases h0 : la.length = 0
  · go_wp2_with fail
    refine (wakes_any _).mono ?_
    rintro _ w6 ⟨rfl, hb6⟩
    have HB6 := Lib.hid hb6; clear hb6
    go_wp2_with fail
    go_ret
    exact ⟨rfl, HB5.out.trans (Below.mono ((bdN (Below.refl _ _) m7).trans HB6.out) HB5.out.size)⟩
  · go_wp2_with fail
    refine (copyEntry_is A1 c1 la _ _ (S1.out.drewN_ _) (by omega)).mono ?_
    rintro _ w6 ⟨A6, c6, rfl, ho6, hb6, hc6, hm6⟩
    obtain ⟨k, hk, hkl⟩ : ∃ k : Nat, within at_ la.length = (k : Int) ∧ k < la.length := by
      unfold within
      rw [if_neg (by omega)]
      have h1 := Int.emod_nonneg at_ (b := la.length) (by omega)
      have h2 := Int.emod_lt_of_pos at_ (b := la.length) (by omega)
      exact ⟨(at_ % la.length).toNat, by omega, by omega⟩
    have hA6 : ∃ g, A6 = some ⟨g, 0, none⟩ ∧ w5.heap.size ≤ g ∧ g < w6.heap.size ∧ blkFree w6 g = true := by
      obtain ⟨A', c', hv, hs, _, _, hf⟩ := OwnS.shape ho6
      injection hv with hv1 _ _; subst hv1
      obtain ⟨ad, e, hb, _⟩ := hs.2 (by omega)
      obtain ⟨h1, h2, h3⟩ := hf ad e
      exact ⟨ad.block, by rw [e, ← h2], h1, hb, h3⟩
    obtain ⟨g, rfl, hg5, hg6, hfree⟩ := hA6
    have hs6 := ho6.sl
    obtain ⟨ad, x, hade, _, hxk, hgx⟩ := hs6.at_ hkl
    injection hade with hade; subst hade
    have f2 := cell_off (by omega) (GEntry.at_time hgx)
    have HO6 := Lib.hid ho6; have HB6 := Lib.hid hb6; have HK := Lib.hid hk; have HXK := Lib.hid hxk
    clear hgx hs6
    simp only [add_zeroA, show Enc.n GEntry = 35 from rfl] at f2
    have ffr := frozen_of_free (a := ⟨g, k * 35 + 34, none⟩) hfree
    obtain ⟨ht0, ht1⟩ := HTM.out x (List.mem_of_getElem? hxk)
    clear ho6 hb6 hk hxk hfree
    go_wp2_with fail
    refine (within_is at_ la.length k _ HK.out (by omega) ha ha2).mono ?_
    rintro _ w7 ⟨rfl, rfl⟩
    go_wp2_with fail
    obtain ⟨y, hy⟩ : ∃ y : GEntry, y = ⟨x.name, x.hash, x.time + 10⟩ := ⟨_, rfl⟩
    obtain ⟨lx, hlx⟩ : ∃ lx, la.set k y = lx := ⟨_, rfl⟩
    have hlen3 : lx.length = la.length := by rw [← hlx, List.length_set]
    have ho8 := HO6.out.poke (y := y) (j := 34) (v := .int .u64 (x.time + 10)) HXK.out (by decide) (by rw [hy]; exact entry_time x _)
    rw [hlx, show Enc.n GEntry = 35 from rfl] at ho8
    obtain ⟨w8, hw8⟩ : ∃ w8, w7.setCell ⟨g, k * 35 + 34, none⟩ (.int .u64 (x.time + 10)) = w8 := ⟨_, rfl⟩
    rw [hw8] at ho8
    have hb8 : Below w5.heap.size w5 w8 := by rw [← hw8]; exact ((bdN (Below.refl _ _) m7).trans HB6.out).setCell (by exact hg5) _
    have s8 := ho8.sl
    rw [hlen3] at s8
    have hne : ∀ l, l = la ∨ l = lc → prefixB lx l = false := by
      intro l hl
      refine prefixB_no (k := k) (x := y) (y := x) (by rw [← hlx, List.getElem?_set_self (by omega)]) ?_ (by rw [hy]; intro h; have := congrArg GEntry.time h; simp at this; omega)
      rcases hl with rfl | rfl
      · exact HXK.out
      · rw [← HLC.out, List.getElem?_append_left hkl]; exact HXK.out
    have hs1 := S1.out.step hb8; have hs4 := S4.out.step hb8
    have hb8' := HB5.out.trans (hb8.mono HB5.out.size)
    simp only [hw8]
    clear hw8 S1 S4 HB5 hb8 HB6 HO6 f2 ffr ho8 hlx hy
    have S1 := Lib.hid hs1; have S4 := Lib.hid hs4; have HB8 := Lib.hid hb8'; have S8 := Lib.hid s8; have HN := Lib.hid hne; clear hs1 hs4 hb8' s8 hne
    have hc6' : lx.length ≤ c6 := by omega
    refine (prefix_is false _ A4 _ _ _ _ lx lc w8 w8.heap.size (HN.out lc (.inr rfl)) S8.out S4.out (by unfold maxLen; omega) (by unfold maxLen; omega)).mono ?_
    rintro _ _ ⟨rfl, m9, rfl⟩
    go_wp2_with fail
    have hlg := LogsIs.new (w := w8.drewN m9) (t := 22) (cs := #[.slice A1 la.length c1, .slice (some ⟨g, 0, none⟩) la.length c6]) (n := 2) (p := w8.heap.size)
      (hs := [⟨A1, la.length, c1⟩, ⟨some ⟨g, 0, none⟩, la.length, c6⟩]) (ls := [la, lx])
      ⟨⟨S1.out.drewN_ _, hc1, hm1⟩, ⟨S8.out.drewN_ _, hc6, hm6⟩, trivial⟩ (Nat.le_refl _) rfl rfl rfl
    refine (agree_any _ _ _ _ _ _ hlg (by omega) (by unfold maxLen; omega)).mono ?_
    rintro _ _ ⟨rfl, m10, rfl⟩
    rw [agreeB_no (ls := [la, lx]) (k := 1) (j := 0) rfl rfl (by omega) (HN.out la (.inl rfl))]
    go_wp2_with fail
    have hb11 : Below w8.heap.size w8 (((w8.drewN m9).alloc (.cells #[.slice A1 la.length c1, .slice (some ⟨g, 0, none⟩) la.length c6] 22)).drewN m10) := bdN ((bdN (Below.refl _ _) _).alloc (Nat.le_refl _) _) _
    obtain ⟨w9, hw9⟩ : ∃ w9, ((w8.drewN m9).alloc (.cells #[.slice A1 la.length c1, .slice (some ⟨g, 0, none⟩) la.length c6] 22)).drewN m10 = w9 := ⟨_, rfl⟩
    have hsz9 : w8.heap.size + 1 = w9.heap.size := by rw [← hw9]; simp
    rw [hw9] at hb11
    have hs1 := S1.out.step hb11; have hs4 := S4.out.step hb11; have hs8 := S8.out.step hb11
    have hb9' := HB8.out.trans (hb11.mono HB8.out.size)
    simp only [hw9, hsz9]
    clear hw9 hsz9 hlg S1 S4 S8 HB8 hb11
    have S1 := Lib.hid hs1; have S4 := Lib.hid hs4; have HB9 := Lib.hid hb9'; have S8 := Lib.hid hs8; clear hs1 hs4 hb9' hs8
    have hlg := LogsIs.new (w := w9) (t := 22) (cs := #[.slice A4 lc.length c4, .slice A1 la.length c1, .slice (some ⟨g, 0, none⟩) la.length c6]) (n := 3) (p := w9.heap.size)
      (hs := [⟨A4, lc.length, c4⟩, ⟨A1, la.length, c1⟩, ⟨some ⟨g, 0, none⟩, la.length, c6⟩]) (ls := [lc, la, lx])
      ⟨⟨S4.out, hc4, hm4⟩, ⟨S1.out, hc1, hm1⟩, ⟨S8.out, hc6, hm6⟩, trivial⟩ (Nat.le_refl _) rfl rfl rfl
    refine (agree_any _ _ _ _ _ _ hlg (by omega) (by unfold maxLen; omega)).mono ?_
    rintro _ _ ⟨rfl, m11, rfl⟩
    rw [agreeB_no (ls := [lc, la, lx]) (k := 2) (j := 1) rfl rfl (by omega) (HN.out la (.inl rfl))]
    go_wp2_with fail
    refine (wakes_any _).mono ?_
    rintro _ w10 ⟨rfl, hb10⟩
    have hb10' := HB9.out.trans (((bdN ((Below.refl _ _).alloc (Nat.le_refl _) _) m11).trans (hb10.mono (by simp))).mono HB9.out.size)
    have HB10 := Lib.hid hb10'; clear hb10 hb10'
    go_wp2_with fail
    go_ret
    exact ⟨rfl, HB10.out⟩
end Go.Proofs.Yteockodnfempfaa
