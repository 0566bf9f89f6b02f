/- What word.Name, auction.New and Open compute. Conditions: those named in each theorem. -/
import Derived.Test.YteockodnfempfaaAuA
namespace Go.Proofs.Yteockodnfempfaa
open Go Go.RowKit Go.Gv

def letB (c : UInt8) : Bool := decide (97 ≤ c.toNat) && decide (c.toNat ≤ 122)
theorem take_snocB (s : ByteArray) (k : Nat) (h : k < s.size) : s.data.toList.take (k + 1) = s.data.toList.take k ++ [s[k]] := by
  rw [List.take_succ_eq_append_getElem (by simpa using h)]; rfl
theorem nameB_eq (s : ByteArray) : nameB s = (s.data.toList.all letB && (decide (1 ≤ s.size) && decide (s.size ≤ 16))) := rfl
theorem all_no {s : ByteArray} {k : Nat} (h : k < s.size) (hc : letB s[k] = false) : s.data.toList.all letB = false := by
  rw [List.all_eq_false]
  exact ⟨s[k], by
    have : s[k] = s.data.toList[k]'(by simpa using h) := rfl
    rw [this]; exact List.getElem_mem _, by rw [hc]; simp⟩
set_option maxHeartbeats 400000 in
theorem name_any (s : ByteArray) (w : World) (hs : s.size ≤ maxLen) :
    Calls Try.prog 71 #[.string s] w fun e w' => e = .returned (.bool (nameB s)) ∧ w = w' := by
  unfold maxLen at hs
  go_enter Try.func71, Try.ntmps71
  go_wp2
  go_loop [3] (fun i => ∃ k : Nat, k ≤ s.size ∧ i = .int .i64 k ∧ (s.data.toList.take k).all letB = true) (fun i => s.size - (intOf i).toNat)
  case atStart => exact ⟨0, Nat.zero_le _, rfl, rfl⟩
  case round =>
    obtain ⟨k, hk, rfl, hall⟩ := hrel
    have HA := Lib.hid hall; clear hall
    by_cases hlt : k < s.size
    · have hts := Lib.hid (take_snocB s k hlt)
      have hno := Lib.hid (fun hc => all_no hlt hc)
      obtain ⟨c, hc⟩ : ∃ c, s[k] = c := ⟨_, rfl⟩
      have HC := Lib.hid hc
      by_cases h1 : (c.toNat : Int) < 97
      · have hb : letB s[k] = false := by rw [hc]; unfold letB; simp; omega
        have HB := Lib.hid hb; clear hb
        go_wp2
        go_ret
        refine ⟨ret_bool ?_, rfl⟩
        rw [nameB_eq, hno.out HB.out]; rfl
      · by_cases h2 : 122 < (c.toNat : Int)
        · have hb : letB s[k] = false := by rw [hc]; unfold letB; simp; omega
          have HB := Lib.hid hb; clear hb
          go_wp2
          go_ret
          refine ⟨ret_bool ?_, rfl⟩
          rw [nameB_eq, hno.out HB.out]; rfl
        · have hb : letB s[k] = true := by rw [hc]; unfold letB; simp; omega
          have HB := Lib.hid hb; clear hb
          go_wp2
          go_round
          case rel => exact ⟨k + 1, by omega, by go_num, by rw [hts.out, List.all_append, HA.out]; simp [HB.out]⟩
          case measure => simp [intOf]; omega
    · have hall : s.data.toList.all letB = true := by
        have := HA.out
        rwa [List.take_of_length_le (by simp; omega)] at this
      have HA2 := Lib.hid hall; clear hall
      by_cases h1 : 1 ≤ s.size
      · by_cases h2 : s.size ≤ 16
        · go_wp2
          go_ret
          exact ⟨ret_bool (by rw [nameB_eq, HA2.out]; simp [h1]; omega), rfl⟩
        · go_wp2
          go_ret
          exact ⟨ret_bool (by rw [nameB_eq, HA2.out]; simp [h2]; omega), rfl⟩
      · go_wp2
        go_ret
        exact ⟨ret_bool (by rw [nameB_eq, HA2.out]; simp [h1]), rfl⟩
theorem name_is (r : Bool) (s : ByteArray) (w : World) (hr : nameB s = r) (hs : s.size ≤ maxLen) :
    Calls Try.prog 71 #[.string s] w fun e w' => e = .returned (.bool r) ∧ w' = w := by subst hr; exact flipC (name_any s w hs)

theorem new_any (w : World) : Calls Try.prog 34 #[] w fun e w' => ∃ g r : Nat, e = .returned (.pointer (some ⟨g, 0, none⟩)) ∧ HouseIs w' ⟨g, 0, none⟩ r [] ∧ w.heap.size ≤ g ∧ w.heap.size ≤ r ∧ g ≠ r ∧ g < w'.heap.size ∧ Bel w w' := by
  have hmm := @run_makeMap Try.prog
  go_enter Try.func34, Try.ntmps34
  go_wp2
  go_ret
  refine ⟨w.heap.size + 1, w.heap.size, rfl, ⟨?_, ?_⟩, by omega, by omega, by omega, by simp, ((Bel.refl w).alloc _).alloc _⟩
  · exact cell_zero (GAuctionHouse.at_m (nw143 (w.alloc (.map #[] 0)) (w.heap.size + 1) ⟨some w.heap.size⟩ (by simp)))
  · exact ⟨[], (mapAt_alloc _ (mapAt_new _ _ w)), trivial⟩
end Go.Proofs.Yteockodnfempfaa
