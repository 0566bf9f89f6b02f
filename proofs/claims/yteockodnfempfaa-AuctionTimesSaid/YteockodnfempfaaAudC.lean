/- What the two functions below compute. Conditions: those named in each theorem. -/
import Derived.Test.YteockodnfempfaaAudB
import Derived.BigRegion
namespace Go.Proofs.Yteockodnfempfaa
open Go Go.RowKit Go.Gv

theorem getU {w : World} {a : Addr} {x : U64} (h : get? U64 w a = some x) : w.cell? a = some (.int .u64 x.v) := get1 rfl h
theorem getI {w : World} {a : Addr} {x : I64} (h : get? I64 w a = some x) : w.cell? a = some (.int .i64 x.v) := get1 rfl h

/-- All of a below all of b. -/
def allBelow (a b : List U64) : Bool := decide (∀ x ∈ a, ∀ y ∈ b, x.v < y.v)
def belowB (a b : List U64) : Bool := allBelow a b && (decide (0 < a.length) && decide (0 < b.length))
theorem allBelow_no {a b : List U64} {i j : Nat} {x y : U64} (hx : a[i]? = some x) (hy : b[j]? = some y) (h : y.v ≤ x.v) : allBelow a b = false := by
  unfold allBelow
  rw [decide_eq_false_iff_not]
  intro hall
  have := hall x (List.mem_of_getElem? hx) y (List.mem_of_getElem? hy)
  omega
theorem mem_take_succ {α : Type} {xs : List α} {k : Nat} {x y : α} (hx : xs[k]? = some x) (h : y ∈ xs.take (k + 1)) : y ∈ xs.take k ∨ y = x := by
  rw [nodup_step hx] at h; simpa using h

set_option maxHeartbeats 400000 in
theorem below_any (A B : Option Addr) (n m c d : Nat) (xs ys : List U64) (w : World) (B0 : Nat) (hx : Sl U64 w B0 A n xs) (hy : Sl U64 w B0 B m ys) (hn : n ≤ maxLen) (hm : m ≤ maxLen) :
    Calls Try.prog 68 #[.slice A n c, .slice B m d] w fun e w' => e = .returned (.bool (belowB xs ys)) ∧ w = w' := by
  unfold maxLen at hn hm
  have H := Lib.hid hx; have H2 := Lib.hid hy
  clear hx hy
  go_enter Try.func68, Try.ntmps68
  go_wp2
  go_loop [6, 11] (fun _ i => ∃ k : Nat, k ≤ n ∧ i = .int .i64 k ∧ ∀ x ∈ xs.take k, ∀ y ∈ ys, x.v < y.v) (fun _ i => n - (intOf i).toNat)
  case atStart => exact ⟨0, by omega, rfl, by simp⟩
  case round =>
    obtain ⟨k, hk, rfl, hall⟩ := hrel
    have HA := Lib.hid hall; clear hall
    by_cases hlt : k < n
    · obtain ⟨ad, x, rfl, _, hxk, hgx⟩ := H.out.at_ (k := k) (by omega)
      have HX := Lib.hid hxk; clear hxk
      have hc := getU hgx; clear hgx
      simp only [show Enc.n U64 = 1 from rfl, Nat.mul_one] at hc
      go_wp2
      go_loop [8, 17] (fun _ i => ∃ j : Nat, j ≤ m ∧ i = .int .i64 j ∧ ∀ y ∈ ys.take j, x.v < y.v) (fun _ i => m - (intOf i).toNat)
      case atStart => exact ⟨0, by omega, rfl, by simp⟩
      case round =>
        obtain ⟨j, hj, rfl, hall2⟩ := hrel
        have HA2 := Lib.hid hall2; clear hall2
        by_cases hlt2 : j < m
        · obtain ⟨bd, y, rfl, _, hyk, hgy⟩ := H2.out.at_ (k := j) (by omega)
          have HY := Lib.hid hyk; clear hyk
          have hc2 := getU hgy; clear hgy
          simp only [show Enc.n U64 = 1 from rfl, Nat.mul_one] at hc2
          by_cases hge : y.v ≤ x.v
          · go_wp2
            go_ret
            exact ⟨ret_bool (by unfold belowB; rw [allBelow_no HX.out HY.out hge]; rfl), rfl⟩
          · go_wp2
            go_round
            case rel =>
              refine ⟨j + 1, by omega, by go_num, fun z hz => ?_⟩
              rcases mem_take_succ HY.out hz with h | h
              · exact HA2.out z h
              · subst h; omega
            case measure => simp [intOf] <;> omega
        · go_wp2
          go_round
          case rel =>
            refine ⟨k + 1, by omega, by go_num, fun z hz y hy => ?_⟩
            rcases mem_take_succ HX.out hz with h | h
            · exact HA.out z h y hy
            · subst h; exact HA2.out y (by rw [List.take_of_length_le (by have := H2.out.1; omega)]; exact hy)
          case measure => simp [intOf] <;> omega
    · have h1 := H.out.1
      have h2 := H2.out.1
      have hA : allBelow xs ys = true := by
        unfold allBelow
        rw [decide_eq_true_eq]
        intro x hx
        exact HA.out x (by rw [List.take_of_length_le (by omega)]; exact hx)
      have HA' := Lib.hid hA; clear hA h1 h2
      by_cases h0 : 0 < n <;> by_cases h00 : 0 < m
      all_goals
        go_wp2
        go_ret
        refine ⟨ret_bool ?_, rfl⟩
        unfold belowB
        rw [HA'.out, H.out.1, H2.out.1]
        simp [h0, h00]

set_option maxHeartbeats 400000 in
theorem lawBelow_any (A B : Option Addr) (n m c d : Nat) (xs ys : List U64) (w : World) (B0 : Nat) (hx : Sl U64 w B0 A n xs) (hy : Sl U64 w B0 B m ys) (hn : n ≤ maxLen) (hm : m ≤ maxLen) :
    Calls Try.prog 28 #[.slice A n c, .slice B m d] w fun e w' => e = .returned (.bool (allBelow xs ys)) ∧ ∃ q, w' = w.drewN q := by
  unfold maxLen at hn hm
  have H := Lib.hid hx; have H2 := Lib.hid hy
  clear hx hy
  go_enter Try.func28, Try.ntmps28
  go_wp2
  go_loopw [5, 9] (fun _ i wr => ∃ k : Nat, k ≤ n ∧ i = .int .i64 k ∧ (∀ x ∈ xs.take k, ∀ y ∈ ys, x.v < y.v) ∧ ∃ q, wr = w.drewN q) (fun _ i _ => n - (intOf i).toNat)
  case atStart => exact ⟨0, by omega, rfl, by simp, 0, rfl⟩
  case round =>
    obtain ⟨k, hk, rfl, hall, q, rfl⟩ := hrel
    have HA := Lib.hid hall; clear hall
    by_cases hlt : k < n
    · obtain ⟨ad, x, rfl, _, hxk, hgx⟩ := H.out.at_ (k := k) (by omega)
      have HX := Lib.hid hxk; clear hxk
      have hc := getU hgx; clear hgx
      simp only [show Enc.n U64 = 1 from rfl, Nat.mul_one] at hc
      go_wp2
      go_loopw [6, 14] (fun _ i wr => ∃ j : Nat, j ≤ m ∧ i = .int .i64 j ∧ (∀ y ∈ ys.take j, x.v < y.v) ∧ ∃ q, wr = w.drewN q) (fun _ i _ => m - (intOf i).toNat)
      case atStart => exact ⟨0, by omega, rfl, by simp, q, rfl⟩
      case round =>
        obtain ⟨j, hj, rfl, hall2, q2, rfl⟩ := hrel
        have HA2 := Lib.hid hall2; clear hall2
        by_cases hlt2 : j < m
        · obtain ⟨bd, y, rfl, _, hyk, hgy⟩ := H2.out.at_ (k := j) (by omega)
          have HY := Lib.hid hyk; clear hyk
          have hc2 := getU hgy; clear hgy
          simp only [show Enc.n U64 = 1 from rfl, Nat.mul_one] at hc2
          by_cases hge : y.v ≤ x.v
          · go_wp2
            go_quiet (fail)
            go_wp2
            go_ret
            exact ⟨ret_bool (allBelow_no HX.out HY.out hge).symm, drewN2 _ _ _⟩
          · go_wp2
            go_quiet (fail)
            go_wp2
            go_roundw
            case rel =>
              refine ⟨j + 1, by omega, by go_num, fun z hz => ?_, _, rfl⟩
              rcases mem_take_succ HY.out hz with h | h
              · exact HA2.out z h
              · subst h; omega
            case measure => simp [intOf] <;> omega
        · go_wp2
          go_roundw
          case rel =>
            refine ⟨k + 1, by omega, by go_num, fun z hz y hy => ?_, q2, rfl⟩
            rcases mem_take_succ HX.out hz with h | h
            · exact HA.out z h y hy
            · subst h; exact HA2.out y (by rw [List.take_of_length_le (by have := H2.out.1; omega)]; exact hy)
          case measure => simp [intOf] <;> omega
    · go_wp2
      go_ret
      refine ⟨ret_bool ?_, q, rfl⟩
      unfold allBelow
      symm; rw [decide_eq_true_eq]
      intro x hx
      exact HA.out x (by rw [List.take_of_length_le (by have := H.out.1; omega)]; exact hx)

end Go.Proofs.Yteockodnfempfaa
