/- What Copy, Cut, audit.Agree and wakes compute. Conditions: those named in each theorem. -/
import Derived.Test.YteockodnfempfaaAudG
namespace Go.Proofs.Yteockodnfempfaa
open Go Go.RowKit Go.Gv

theorem copyEntry_any (A : Option Addr) (n c : Nat) (xs : List GEntry) (w : World) (B : Nat) (hx : Sl GEntry w B A n xs) (hn : n * 56 ≤ 140737488355328) :
    Calls Try.prog 22 #[.slice A n c] w fun e w' => ∃ v, e = .returned v ∧ OwnS w' w.heap.size 30 v xs ∧ Below w.heap.size w w' := by
  have H := Lib.hid hx; clear hx
  obtain ⟨v', w', hrun, ho, hg, _⟩ := gAppend_S (P := Try.prog) ei22 (OwnS.nil (α := GEntry) w w.heap.size 30) (c := c) H.out (by unfold maxLen; simp; omega) (by simp; omega) (Nat.le_refl _) 22
  have hb := Gv.Below.appS (Below.refl w.heap.size w) hg (OwnS.nil (α := GEntry) w w.heap.size 30) (Nat.le_refl _) (Nat.le_refl _)
  have HO := Lib.hid ho; have HB := Lib.hid hb; clear ho hg hb
  go_enter Try.func22, Try.ntmps22
  go_wp2
  go_ret
  exact ⟨v', rfl, by have := HO.out; simpa using this, HB.out⟩
theorem copyU64_any (A : Option Addr) (n c : Nat) (xs : List U64) (w : World) (B : Nat) (hx : Sl U64 w B A n xs) (hn : n * 8 ≤ 140737488355328) :
    Calls Try.prog 70 #[.slice A n c] w fun e w' => ∃ v, e = .returned v ∧ OwnS w' w.heap.size 28 v xs ∧ Below w.heap.size w w' := by
  have H := Lib.hid hx; clear hx
  obtain ⟨v', w', hrun, ho, hg, _⟩ := gAppend_S (P := Try.prog) ei36 (OwnS.nil (α := U64) w w.heap.size 28) (c := c) H.out (by unfold maxLen; simp; omega) (by simp; omega) (Nat.le_refl _) 36
  have hb := Gv.Below.appS (Below.refl w.heap.size w) hg (OwnS.nil (α := U64) w w.heap.size 28) (Nat.le_refl _) (Nat.le_refl _)
  have HO := Lib.hid ho; have HB := Lib.hid hb; clear ho hg hb
  go_enter Try.func70, Try.ntmps70
  go_wp2
  go_ret
  exact ⟨v', rfl, by have := HO.out; simpa using this, HB.out⟩

theorem cutU64_any (A : Option Addr) (n c : Nat) (q : Nat) (xs : List U64) (w : World) (B : Nat) (hx : Sl U64 w B A n xs) (hn : n ≤ c) (hc : c ≤ maxLen) (hq : q * 8 ≤ 140737488355328) :
    Calls Try.prog 33 #[.slice A n c, .int .i64 q] w fun e w' => ∃ v, e = .returned v ∧ OwnS w' w.heap.size 28 v (xs.take q) ∧ Below w.heap.size w w' := by
  unfold maxLen at hc
  have H := Lib.hid hx; clear hx
  have e0 : xs.take (min n q) = xs.take q := by
    have := H.out.1
    rw [← List.take_take, List.take_of_length_le (i := n) (by simp; omega)]
  obtain ⟨v', w', hrun, ho, hg, _⟩ := gAppend_S (P := Try.prog) ei36 (OwnS.nil (α := U64) w w.heap.size 28) (c := c) (H.out.take (Nat.min_le_left n q)) (by unfold maxLen; simp; omega) (by simp; omega) (Nat.le_refl _) 36
  have hb := Gv.Below.appS (Below.refl w.heap.size w) hg (OwnS.nil (α := U64) w w.heap.size 28) (Nat.le_refl _) (Nat.le_refl _)
  rw [List.nil_append, e0] at ho
  have HO := Lib.hid ho; have HB := Lib.hid hb; clear ho hg hb e0
  go_enter Try.func33, Try.ntmps33
  go_wp2
  go_ret
  exact ⟨v', rfl, HO.out, HB.out⟩

/-- Of each two logs one is a beginning of the other one. -/
def agreeB (ls : List (List GEntry)) : Bool := decide (∀ i < ls.length, ∀ j < i, prefixB (ls.getD i []) (ls.getD j []) = true)
theorem agreeB_iff (ls : List (List GEntry)) : agreeB ls = true ↔ ∀ (i j : Nat) (a b : List GEntry), ls[i]? = some a → ls[j]? = some b → j < i → prefixB a b = true := by
  unfold agreeB
  rw [decide_eq_true_eq]
  constructor
  · intro h i j a b hi hj hji
    have := h i (List.getElem?_eq_some_iff.1 hi).1 j hji
    rwa [getD_of hi, getD_of hj] at this
  · intro h i hi j hj
    exact h i j _ _ (by rw [List.getD_eq_getElem?_getD, List.getElem?_eq_getElem hi]; rfl) (by rw [List.getD_eq_getElem?_getD, List.getElem?_eq_getElem (by omega)]; rfl) hj
theorem prefix_is (r : Bool) (A B : Option Addr) (n m c d : Nat) (xs ys : List GEntry) (w : World) (B0 : Nat) (hr : prefixB xs ys = r) (hx : Sl GEntry w B0 A n xs) (hy : Sl GEntry w B0 B m ys) (hn : n ≤ maxLen) (hm : m ≤ maxLen) :
    Calls Try.prog 23 #[.slice A n c, .slice B m d] w fun e w' => e = .returned (.bool r) ∧ ∃ n, w' = w.drewN n := by
  subst hr; exact prefix_any A B n m c d xs ys w B0 hx hy hn hm
theorem LogsIs.drewN {w : World} {B : Nat} {A : Option Addr} {n : Nat} {ls : List (List GEntry)} (h : LogsIs w B A n ls) (m : Nat) : LogsIs (w.drewN m) B A n ls := by
  obtain ⟨hs, h1, h2, h3⟩ := h
  exact ⟨hs, h1.drewN_ m, h2, fun i h l a b => ⟨(h3 i h l a b).1.drewN_ m, (h3 i h l a b).2⟩⟩
theorem agreeB_take {ls : List (List GEntry)} {k : Nat} {l : List GEntry} (hl : ls[k]? = some l) (h : agreeB (ls.take k) = true) (h2 : ∀ j a, j < k → ls[j]? = some a → prefixB l a = true) : agreeB (ls.take (k + 1)) = true := by
  rw [agreeB_iff] at h ⊢
  intro i j a b hi hj hji
  have hik : i < k + 1 := by have := (List.getElem?_eq_some_iff.1 hi).1; simp at this; omega
  rw [List.getElem?_take_of_lt hik] at hi
  rw [List.getElem?_take_of_lt (by omega)] at hj
  by_cases he : i = k
  · subst he; rw [hl] at hi; injection hi with hi; subst hi
    exact h2 j b hji hj
  · exact h i j a b (by rw [List.getElem?_take_of_lt (by omega)]; exact hi) (by rw [List.getElem?_take_of_lt (by omega)]; exact hj) hji
theorem agreeB_no {ls : List (List GEntry)} {k j : Nat} {l m : List GEntry} (hl : ls[k]? = some l) (hm : ls[j]? = some m) (hj : j < k) (h : prefixB l m = false) : agreeB ls = false := by
  cases hA : agreeB ls
  · rfl
  · have := (agreeB_iff ls).1 hA k j l m hl hm hj
    rw [h] at this; cases this

set_option maxHeartbeats 1000000 in
theorem agree_any (A : Option Addr) (n c : Nat) (ls : List (List GEntry)) (w : World) (B0 : Nat) (hx : LogsIs w B0 A n ls) (hn : n ≤ c) (hc : c ≤ maxLen) :
    Calls Try.prog 24 #[.slice A n c] w fun e w' => e = .returned (.bool (agreeB ls)) ∧ ∃ n, w' = w.drewN n := by
  unfold maxLen at hc
  have H := Lib.hid hx; clear hx
  go_enter Try.func24, Try.ntmps24
  go_wp2
  go_loopw [9] (fun i wr => ∃ (k m : Nat), k ≤ n ∧ i = .int .i64 k ∧ agreeB (ls.take k) = true ∧ wr = w.drewN m) (fun i _ => n - (intOf i).toNat)
  case atStart => exact ⟨0, 0, by omega, rfl, by simp [agreeB], rfl⟩
  case round =>
    obtain ⟨k, m0, hk, rfl, hall, rfl⟩ := hrel
    have HA := Lib.hid hall; clear hall
    by_cases hlt : k < n
    · obtain ⟨ad, A2, n2, c2, l, rfl, hab, hl, hcell, hsl, hnc2, hc2⟩ := H.out.at_ hlt
      have HL := Lib.hid hl; have HS := Lib.hid hsl; clear hl hsl
      unfold maxLen at hc2
      go_wp2
      go_loopw [18] (fun i wr => ∃ (j m : Nat), j ≤ k ∧ i = .int .i64 j ∧ (∀ p a, p < j → ls[p]? = some a → prefixB l a = true) ∧ wr = w.drewN m) (fun i _ => k - (intOf i).toNat)
      case atStart => exact ⟨0, m0, by omega, rfl, fun p a hp => by omega, rfl⟩
      case round =>
        obtain ⟨j, m1, hj, rfl, hall2, rfl⟩ := hrel
        have HA2 := Lib.hid hall2; clear hall2
        by_cases hlt2 : j < k
        · obtain ⟨ad', A3, n3, c3, l3, hade, _, hl3, hcell3, hsl3, hnc3, hc3⟩ := H.out.at_ (k := j) (by omega)
          injection hade with hade; subst hade
          have HL3 := Lib.hid hl3; have HS3 := Lib.hid hsl3; clear hl3 hsl3
          unfold maxLen at hc3
          cases hp : prefixB l l3
          · have HP := Lib.hid hp; clear hp
            go_wp2_with (go_at_call 23; refine (prefix_is false _ _ _ _ _ _ _ _ _ _ HP.out (HS.out.drewN_ _) (HS3.out.drewN_ _) (by unfold maxLen; omega) (by unfold maxLen; omega)).mono ?_; rintro _ _ ⟨rfl, m2, rfl⟩)
            go_ret
            exact ⟨ret_bool (agreeB_no HL.out HL3.out hlt2 HP.out).symm, m1 + m2, rfl⟩
          · have HP := Lib.hid hp; clear hp
            go_wp2_with (go_at_call 23; refine (prefix_is true _ _ _ _ _ _ _ _ _ _ HP.out (HS.out.drewN_ _) (HS3.out.drewN_ _) (by unfold maxLen; omega) (by unfold maxLen; omega)).mono ?_; rintro _ _ ⟨rfl, m2, rfl⟩)
            go_roundw
            case rel =>
              refine ⟨j + 1, m1 + m2, by omega, by go_num, fun p a hp ha => ?_, rfl⟩
              by_cases he : p = j
              · subst he; rw [HL3.out] at ha; injection ha with ha; subst ha; exact HP.out
              · exact HA2.out p a (by omega) ha
            case measure => simp [intOf] <;> omega
        · go_wp2
          go_roundw
          case rel =>
            refine ⟨k + 1, m1, by omega, by go_num, agreeB_take HL.out HA.out fun p a hp ha => HA2.out p a (by omega) ha, rfl⟩
          case measure => simp [intOf] <;> omega
    · go_wp2
      go_ret
      refine ⟨ret_bool ?_, m0, rfl⟩
      have := HA.out
      rw [List.take_of_length_le (by have := H.out.len; omega)] at this
      exact this.symm

theorem wakes_any (w : World) : Calls Try.prog 25 #[] w fun e w' => e = .returned (.bool true) ∧ Below w.heap.size w w' := by
  go_enter Try.func25, Try.ntmps25
  go_wp2_with (first
    | (go_at_call 24; refine (agree_any none 0 0 [] _ 0 ⟨[], Sl.nil, rfl, by simp⟩ (by omega) (by unfold maxLen; omega)).mono ?_; rintro _ _ ⟨rfl, m1, rfl⟩; rw [show agreeB [] = true from rfl])
    | (go_at_call 23; go_loud (refine (prefix_is true none _ 0 1 0 1 [] [⟨default, default, 1⟩] _ (World.heap _).size.succ rfl Sl.nil (Sl.new_ (by rw [List.flatMap_cons, List.flatMap_nil, List.append_nil]; rfl) rfl rfl (Nat.lt_succ_self _)) (by unfold maxLen; omega) (by unfold maxLen; omega)).mono ?_); rintro _ _ ⟨rfl, m2, rfl⟩))
  go_ret
  exact ⟨rfl, bdN ((bdN (Below.refl _ _) _).alloc (Nat.le_refl _) _) _⟩
end Go.Proofs.Yteockodnfempfaa
