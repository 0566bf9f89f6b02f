/- What audit.Rising computes. Conditions: those named in each theorem. -/
import Derived.Test.YteockodnfempfaaAudD
import Derived.BigRegion
import Derived.Deep.RegionWith
namespace Go.Proofs.Yteockodnfempfaa
open Go Go.RowKit Go.Gv

/-- Does b stand rightly behind a? -/
def riseB (a b : GEntry) : Bool := decide (a.time < b.time) || (decide (b.time = a.time) && decide (beforeI a.name b.name < 0))
def risingB : List GEntry → Bool
  | a :: b :: r => riseB a b && risingB (b :: r)
  | _ => true
theorem risingB_iff : ∀ (xs : List GEntry), risingB xs = true ↔ ∀ k a b, xs[k]? = some a → xs[k + 1]? = some b → riseB a b = true
  | [] => by simp [risingB]
  | [x] => by simp [risingB]
  | x :: y :: r => by
    simp only [risingB, Bool.and_eq_true, risingB_iff (y :: r)]
    constructor
    · rintro ⟨h1, h2⟩ k a b ha hb
      cases k with
      | zero => simp at ha hb; subst ha; subst hb; exact h1
      | succ k => exact h2 k a b (by simpa using ha) (by simpa using hb)
    · intro h
      exact ⟨h 0 x y rfl rfl, fun k a b ha hb => h (k + 1) a b (by simpa using ha) (by simpa using hb)⟩

set_option maxHeartbeats 400000 in
theorem rising_any (A : Option Addr) (n c : Nat) (xs : List GEntry) (w : World) (hx : Sl GEntry w w.heap.size A n xs) (hn : n ≤ maxLen) :
    Calls Try.prog 32 #[.slice A n c] w fun e w' => e = .returned (.bool (risingB xs)) ∧ Below w.heap.size w w' := by
  unfold maxLen at hn
  have H := Lib.hid hx; clear hx
  go_enter Try.func32, Try.ntmps32
  go_wp2
  go_loopw [3] (fun i wr => ∃ (k : Nat), 1 ≤ k ∧ (k ≤ n ∨ k = 1) ∧ i = .int .i64 k ∧ (∀ j a b, j + 1 < k → xs[j]? = some a → xs[j + 1]? = some b → riseB a b = true) ∧ Below w.heap.size w wr) (fun i _ => n - (intOf i).toNat)
  case atStart => exact ⟨1, by omega, by omega, rfl, by intro j a b hj; omega, Below.refl _ _⟩
  case round =>
    obtain ⟨k, hk1, hk, rfl, hall, hb⟩ := hrel
    have HA := Lib.hid hall; clear hall
    have HB := Lib.hid hb; clear hb
    by_cases hlt : k < n
    · obtain ⟨ad, x, rfl, hab, hxk, hgx⟩ := (H.out.below HB.out).at_ (k := k - 1) (by omega)
      obtain ⟨ad', y, hadd, _, hyk, hgy⟩ := (H.out.below HB.out).at_ (k := k) (by omega)
      obtain rfl : ad = ad' := by injection hadd
      have HX := Lib.hid hxk; have HY := Lib.hid hyk; clear hxk hyk hadd
      change get? GEntry wr (ad.add ((k - 1) * 35)) = some x at hgx
      change get? GEntry wr (ad.add (k * 35)) = some y at hgy
      obtain ⟨j, rfl⟩ : ∃ j, k = j + 1 := ⟨k - 1, by omega⟩
      simp only [Nat.add_sub_cancel] at hgx
      have hab1 : ad.block < wr.heap.size := by have := HB.out.size; omega
      have hab2 : ad.block < wr.heap.size + 1 := by omega
      have hw1 := wrap_nat (j := j) (by omega)
      have hj1 : (j : Int) < (n : Int) := by omega
      have hw2 : ∀ (o1 o2 : Obj), Below w.heap.size w ((wr.alloc o1).alloc o2).drew := fun o1 o2 => ((HB.out.alloc HB.out.size o1).alloc (by have := HB.out.size; simp; omega) o2).drew
      have HW := Lib.hid hw2; clear hw2
      have hstep : riseB x y = true → ∀ i a b, i + 1 < j + 1 + 1 → xs[i]? = some a → xs[i + 1]? = some b → riseB a b = true := by
        intro hr i a b hi ha hb
        by_cases he : i = j
        · subst he
          rw [show i + 1 - 1 = i by omega] at HX
          have e1 := HX.out; have e2 := HY.out
          rw [e1] at ha; rw [e2] at hb
          injection ha with ha; injection hb with hb; subst ha; subst hb; exact hr
        · exact HA.out i a b (by omega) ha hb
      have hbad : riseB x y = false → risingB xs = false := by
        intro hr
        cases hq : risingB xs with
        | false => rfl
        | true =>
          have := (risingB_iff xs).1 hq j x y (by have := HX.out; rwa [show j + 1 - 1 = j by omega] at this) HY.out
          rw [hr] at this; cases this
      have HS := Lib.hid hstep; have HN := Lib.hid hbad; clear hstep hbad
      by_cases h1 : y.time < x.time
      · have hr : riseB x y = false := by simp [riseB]; omega
        have HR := Lib.hid hr; clear hr
        go_wp2
        go_region
        all_goals
          go_wp2
          go_ret
          exact ⟨ret_bool (HN.out HR.out).symm, HW.out _ _⟩
      · by_cases h2 : y.time = x.time
        · have h2b : (y.time == x.time) = true := by simp [h2]
          have H2 := Lib.hid h2; clear h2
          by_cases h3 : 0 ≤ beforeI x.name y.name
          · have hr : riseB x y = false := by simp [riseB, H2.out]; omega
            have HR := Lib.hid hr; clear hr
            go_wp2
            go_region
            all_goals
              go_wp2_with fail
              refine (before_any _ _ _).mono ?_
              rintro e w' ⟨rfl, hb'⟩
              have HB' := Lib.hid hb'; clear hb'
              go_wp2
              go_ret
              exact ⟨ret_bool (HN.out HR.out).symm, (HW.out _ _).trans (HB'.out.mono (HW.out _ _).size)⟩
          · have hr : riseB x y = true := by simp [riseB, H2.out]; omega
            have HR := Lib.hid hr; clear hr
            go_wp2
            go_region
            all_goals
              go_wp2_with fail
              refine (before_any _ _ _).mono ?_
              rintro e w' ⟨rfl, hb'⟩
              have HB' := Lib.hid hb'; clear hb'
              go_wp2
              go_roundw
              case rel => exact ⟨j + 1 + 1, by omega, by omega, by go_num, HS.out HR.out, (HW.out _ _).trans (HB'.out.mono (HW.out _ _).size)⟩
              case measure => simp [intOf] <;> omega
        · have h2b : (y.time == x.time) = false := by simp [h2]
          have hr : riseB x y = true := by simp [riseB]; omega
          have HR := Lib.hid hr; clear hr
          go_wp2
          go_region
          all_goals
            go_wp2
            go_roundw
            case rel => exact ⟨j + 1 + 1, by omega, by omega, by go_num, HS.out HR.out, HW.out _ _⟩
            case measure => simp [intOf] <;> omega
    · go_wp2
      go_ret
      refine ⟨ret_bool ?_, HB.out⟩
      symm
      rw [risingB_iff]
      intro i a b ha hb
      refine HA.out i a b ?_ ha hb
      have := (List.getElem?_eq_some_iff.1 hb).1
      have := H.out.1
      omega

end Go.Proofs.Yteockodnfempfaa
