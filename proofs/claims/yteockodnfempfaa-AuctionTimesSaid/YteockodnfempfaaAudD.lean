/- What cmp.Compare, cmp.Or and lock.Before compute. Conditions: those named in each theorem. -/
import Derived.Test.YteockodnfempfaaAudC
namespace Go.Proofs.Yteockodnfempfaa
open Go Go.RowKit Go.Gv

def cmpI (a b : Int) : Int := if a < b then -1 else if b < a then 1 else 0
set_option maxHeartbeats 400000 in
theorem compare_any (a b : Int) (w : World) :
    Calls Try.prog 108 #[.int .i64 a, .int .i64 b] w fun e w' => e = .returned (.int .i64 (cmpI a b)) ∧ w = w' := by
  by_cases h1 : a < b
  · go_enter Try.func108, Try.ntmps108
    go_wp2
    go_ret
    exact ⟨ret_int (by unfold cmpI; rw [if_pos h1]), rfl⟩
  · by_cases h2 : b < a
    · go_enter Try.func108, Try.ntmps108
      go_wp2
      go_ret
      exact ⟨ret_int (by unfold cmpI; rw [if_neg (by omega), if_pos h2]), rfl⟩
    · go_enter Try.func108, Try.ntmps108
      go_wp2
      go_ret
      exact ⟨ret_int (by unfold cmpI; rw [if_neg (by omega), if_neg (by omega)]), rfl⟩

def orI (xs : List Int) : Int := (xs.find? fun x => x != 0).getD 0
set_option maxHeartbeats 400000 in
theorem or_any (A : Option Addr) (n c : Nat) (xs : List I64) (w : World) (B0 : Nat) (hx : Sl I64 w B0 A n xs) (hn : n ≤ maxLen) :
    Calls Try.prog 77 #[.slice A n c] w fun e w' => e = .returned (.int .i64 (orI (xs.map (·.v)))) ∧ w = w' := by
  unfold maxLen at hn
  have H := Lib.hid hx
  clear hx
  go_enter Try.func77, Try.ntmps77
  go_wp2
  go_loop [5, 8] (fun _ i => ∃ k : Nat, k ≤ n ∧ i = .int .i64 k ∧ ∀ x ∈ xs.take k, x.v = 0) (fun _ i => n - (intOf i).toNat)
  case atStart => exact ⟨0, by omega, rfl, by simp⟩
  case round =>
    obtain ⟨k, hk, rfl, hall⟩ := hrel
    have HA := Lib.hid hall; clear hall
    by_cases hlt : k < n
    · obtain ⟨ad, x, rfl, _, hxk, hgx⟩ := H.out.at_ (k := k) (by omega)
      have HX := Lib.hid hxk; clear hxk
      have hc := getI hgx; clear hgx
      simp only [show Enc.n I64 = 1 from rfl, Nat.mul_one] at hc
      by_cases h0 : x.v = 0
      · have hb : (x.v != 0) = false := by simp [h0]
        have H0 := Lib.hid h0; clear h0
        go_wp2
        go_round
        case rel =>
          refine ⟨k + 1, by omega, by go_num, fun z hz => ?_⟩
          rcases mem_take_succ HX.out hz with h | h
          · exact HA.out z h
          · subst h; exact H0.out
        case measure => simp [intOf] <;> omega
      · have hb : (x.v != 0) = true := by simp [h0]
        go_wp2
        go_ret
        refine ⟨ret_int ?_, rfl⟩
        have hs : xs = xs.take k ++ x :: xs.drop (k + 1) := by
          have hl : k < xs.length := (List.getElem?_eq_some_iff.1 HX.out).1
          have hxx : xs[k] = x := (List.getElem?_eq_some_iff.1 HX.out).2
          rw [← hxx, List.getElem_cons_drop, List.take_append_drop]
        unfold orI
        rw [hs, List.map_append, List.find?_append, List.find?_eq_none.2 (by
          intro y hy
          obtain ⟨z, hz, rfl⟩ := List.mem_map.1 hy
          simp [HA.out z hz])]
        simp [hb]
    · go_wp2
      go_ret
      refine ⟨ret_int ?_, rfl⟩
      unfold orI
      rw [List.find?_eq_none.2 (by
          intro y hy
          obtain ⟨z, hz, rfl⟩ := List.mem_map.1 hy
          simp [HA.out z (by rw [List.take_of_length_le (by have := H.out.1; omega)]; exact hz)])]
      rfl

def beforeI (a b : GName) : Int := orI [cmpI a.client b.client, cmpI a.seq b.seq]
set_option maxRecDepth 100000 in
set_option maxHeartbeats 400000 in
theorem before_any (a b : GName) (w : World) :
    Calls Try.prog 69 #[a.val, b.val] w fun e w' => e = .returned (.int .i64 (beforeI a b)) ∧ Below w.heap.size w w' := by
  go_enter Try.func69, Try.ntmps69
  go_wp2
  refine wp_region_tail 10 (by kernel_rfl) (by kernel_rfl) ?_
  simp only [List.take_succ_cons, List.take_zero, List.drop_succ_cons, List.drop_zero]
  repeat still_step
  still_call (flipC (compare_any _ _ _))
  repeat still_step
  still_call (flipC (compare_any _ _ _))
  refine wpStill_nil ?_
  go_wp2_with fail
  refine (or_any _ _ _ [⟨cmpI a.client b.client⟩, ⟨cmpI a.seq b.seq⟩] _ (w.heap.size + 1 + 1 + 1) ?_ (by decide)).mono ?_
  · exact Sl.drew_ (Sl.new_ rfl rfl (by simp only [World.size_alloc]) (by omega))
  · rintro e w' ⟨rfl, rfl⟩
    go_wp2
    go_ret
    exact ⟨ret_int rfl, ((((Below.refl _ _).alloc (Nat.le_refl _) _).alloc (by simp) _).alloc (by simp only [World.size_alloc]; omega) _).drew⟩

end Go.Proofs.Yteockodnfempfaa
