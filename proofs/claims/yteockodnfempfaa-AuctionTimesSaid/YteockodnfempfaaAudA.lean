/- What Within, Prefix, Same and Less compute. Conditions: those named in each theorem. -/
import Derived.Test.YteockodnfempfaaTyA
import Derived.Test.YteockodnfempfaaRg
namespace Go.Proofs.Yteockodnfempfaa
open Go Go.RowKit Go.Gv

def within (v n : Int) : Int := if n < 1 then 0 else v % n

set_option maxHeartbeats 400000 in
theorem within_any (v n : Int) (w : World) (hn : n ≤ 9223372036854775807) (_hv : -9223372036854775808 ≤ v) (_hv2 : v ≤ 9223372036854775807) :
    Calls Try.prog 26 #[.int .i64 v, .int .i64 n] w fun e w' => e = .returned (.int .i64 (within v n)) ∧ w = w' := by
  by_cases h1 : n < 1
  · go_enter Try.func26, Try.ntmps26
    go_wp2
    go_ret
    exact ⟨ret_int (by unfold within; rw [if_pos h1]), rfl⟩
  · have h2 := tmod_lo (v := v) (n := n) (by omega)
    by_cases h3 : v.tmod n < 0
    · go_enter Try.func26, Try.ntmps26
      go_wp2
      go_ret
      exact ⟨ret_int (by unfold within; rw [if_neg (by omega)]; exact tmod_neg (by omega) h3), rfl⟩
    · go_enter Try.func26, Try.ntmps26
      go_wp2
      go_ret
      exact ⟨ret_int (by unfold within; rw [if_neg (by omega)]; exact tmod_pos (by omega) (by omega)), rfl⟩

def prefixB (a b : List GEntry) : Bool := decide (a.take (min a.length b.length) = b.take (min a.length b.length))
theorem take_eq_succ {α : Type} {xs ys : List α} {k : Nat} (h : xs.take k = ys.take k) (hx : k < xs.length) (hy : k < ys.length) : (xs.take (k+1) = ys.take (k+1)) ↔ xs[k] = ys[k] := by
  rw [List.take_succ_eq_append_getElem hx, List.take_succ_eq_append_getElem hy, h]
  constructor
  · intro e; simpa using List.append_cancel_left e
  · intro e; rw [e]
theorem prefixB_no {xs ys : List GEntry} {k : Nat} {x y : GEntry} (hx : xs[k]? = some x) (hy : ys[k]? = some y) (h : ¬ x = y) : prefixB xs ys = false := by
  unfold prefixB
  rw [decide_eq_false_iff_not]
  intro e
  have hk : k < xs.length := (List.getElem?_eq_some_iff.1 hx).1
  have hk' : k < ys.length := (List.getElem?_eq_some_iff.1 hy).1
  have e1 : (xs.take (min xs.length ys.length))[k]? = some x := by rw [List.getElem?_take_of_lt (by omega)]; exact hx
  have e2 : (ys.take (min xs.length ys.length))[k]? = some y := by rw [List.getElem?_take_of_lt (by omega)]; exact hy
  rw [e, e2] at e1
  injection e1 with e1; exact h e1.symm
theorem take_step {α : Type} {xs ys : List α} {k : Nat} {x y : α} (h : xs.take k = ys.take k) (hx : xs[k]? = some x) (hy : ys[k]? = some y) (e : x = y) : xs.take (k+1) = ys.take (k+1) := by
  have hk : k < xs.length := (List.getElem?_eq_some_iff.1 hx).1
  have hk' : k < ys.length := (List.getElem?_eq_some_iff.1 hy).1
  rw [take_eq_succ h hk hk']
  rw [List.getElem?_eq_getElem hk] at hx; rw [List.getElem?_eq_getElem hk'] at hy
  injection hx with hx; injection hy with hy; rw [hx, hy, e]
set_option maxHeartbeats 400000 in
theorem prefix_any (A B : Option Addr) (n m c d : Nat) (xs ys : List GEntry) (w : World) (B0 : Nat) (hx : Sl GEntry w B0 A n xs) (hy : Sl GEntry w B0 B m ys) (hn : n ≤ maxLen) (hm : m ≤ maxLen) :
    Calls Try.prog 23 #[.slice A n c, .slice B m d] w fun e w' => e = .returned (.bool (prefixB xs ys)) ∧ ∃ n, w' = w.drewN n := by
  unfold maxLen at hn hm
  have H := Lib.hid hx; have H2 := Lib.hid hy
  clear hx hy
  go_enter Try.func23, Try.ntmps23
  go_wp2
  go_loopw [5, 11] (fun _ i wr => ∃ k : Nat, k ≤ min n m ∧ i = .int .i64 k ∧ xs.take k = ys.take k ∧ ∃ q, wr = w.drewN q) (fun _ i _ => min n m - (intOf i).toNat)
  case atStart => exact ⟨0, by omega, rfl, by simp, 0, rfl⟩
  case round =>
    obtain ⟨k, hk, rfl, heq, q, rfl⟩ := hrel
    have HE := Lib.hid heq; clear heq
    by_cases hlt : k < min n m
    · obtain ⟨ad, x, rfl, _, hxk, hgx⟩ := H.out.at_ (k := k) (by omega)
      obtain ⟨bd, y, rfl, _, hyk, hgy⟩ := H2.out.at_ (k := k) (by omega)
      have HX := Lib.hid hxk; have HY := Lib.hid hyk; clear hxk hyk
      change get? GEntry w (ad.add (k * 35)) = some x at hgx
      change get? GEntry w (bd.add (k * 35)) = some y at hgy
      go_wp2
      go_quiet (fail)
      go_wp2
      · go_ret
        exact ⟨ret_bool (prefixB_no HX.out HY.out (nd_t ‹_›)).symm, drewN2 _ _ _⟩
      · go_roundw
        case rel => exact ⟨k + 1, by omega, by go_num, take_step HE.out HX.out HY.out (nd_f ‹_›), _, rfl⟩
        case measure => simp [intOf] <;> omega
    · go_wp2
      go_ret
      refine ⟨ret_bool ?_, q, rfl⟩
      unfold prefixB
      rw [H.out.1, H2.out.1, show min n m = k by omega, HE.out]; simp

/-- Two lists of entries, held against each other place by place. -/
def sameB {α : Type} [DecidableEq α] (a b : List α) : Bool := decide (a = b)
theorem sameB_no {α : Type} [DecidableEq α] {xs ys : List α} {k : Nat} {x y : α} (hx : xs[k]? = some x) (hy : ys[k]? = some y) (h : ¬ x = y) : sameB xs ys = false := by
  unfold sameB
  rw [decide_eq_false_iff_not]
  intro e; rw [e, hy] at hx; injection hx with hx; exact h hx.symm
set_option maxHeartbeats 400000 in
theorem sameEntry_any (A B : Option Addr) (n m c d : Nat) (xs ys : List GEntry) (w : World) (B0 : Nat) (hx : Sl GEntry w B0 A n xs) (hy : Sl GEntry w B0 B m ys) (hn : n ≤ maxLen) (hm : m ≤ maxLen) :
    Calls Try.prog 29 #[.slice A n c, .slice B m d] w fun e w' => e = .returned (.bool (sameB xs ys)) ∧ ∃ n, w' = w.drewN n := by
  unfold maxLen at hn hm
  have H := Lib.hid hx; have H2 := Lib.hid hy
  clear hx hy
  by_cases hne : n = m
  · obtain rfl : m = n := hne.symm
    clear hne
    go_enter Try.func29, Try.ntmps29
    go_wp2
    go_loopw [5] (fun i wr => ∃ k : Nat, k ≤ m ∧ i = .int .i64 k ∧ xs.take k = ys.take k ∧ ∃ q, wr = w.drewN q) (fun i _ => m - (intOf i).toNat)
    case atStart => exact ⟨0, by omega, rfl, by simp, 0, rfl⟩
    case round =>
      obtain ⟨k, hk, rfl, heq, q, rfl⟩ := hrel
      have HE := Lib.hid heq; clear heq
      by_cases hlt : k < m
      · obtain ⟨ad, x, rfl, _, hxk, hgx⟩ := H.out.at_ (k := k) (by omega)
        obtain ⟨bd, y, rfl, _, hyk, hgy⟩ := H2.out.at_ (k := k) (by omega)
        have HX := Lib.hid hxk; have HY := Lib.hid hyk; clear hxk hyk
        change get? GEntry w (ad.add (k * 35)) = some x at hgx
        change get? GEntry w (bd.add (k * 35)) = some y at hgy
        go_wp2
        go_quiet (fail)
        go_wp2
        · go_ret
          exact ⟨ret_bool (sameB_no HX.out HY.out (nd_t ‹_›)).symm, drewN2 _ _ _⟩
        · go_roundw
          case rel => exact ⟨k + 1, by omega, by go_num, take_step HE.out HX.out HY.out (nd_f ‹_›), _, rfl⟩
          case measure => simp [intOf] <;> omega
      · go_wp2
        go_ret
        refine ⟨ret_bool ?_, q, rfl⟩
        unfold sameB
        have e := HE.out
        rw [List.take_of_length_le (by have := H.out.1; omega), List.take_of_length_le (by have := H2.out.1; omega)] at e
        rw [e]; simp
  · have hb : ((n : Int) != (m : Int)) = true := by rw [bne_iff_ne]; omega
    go_enter Try.func29, Try.ntmps29
    go_wp2
    go_ret
    refine ⟨ret_bool ?_, 0, rfl⟩
    unfold sameB
    symm; rw [decide_eq_false_iff_not]
    intro e; have h1 := H.out.1; have h2 := H2.out.1; rw [e] at h1; omega

def lessB (a b : GName) : Bool := decide (a.client < b.client) || (decide (a.client = b.client) && decide (a.seq < b.seq))

set_option maxHeartbeats 400000 in
theorem less_any (a b : GName) (w : World) :
    Calls Try.prog 30 #[a.val, b.val] w fun e w' => e = .returned (.bool (lessB a b)) ∧ Below w.heap.size w w' := by
  have fin : Below w.heap.size w ((w.alloc (.cells a.enc.toArray 25)).alloc (.cells b.enc.toArray 25)) := ((Below.refl _ _).alloc (Nat.le_refl _) _).alloc (by simp) _
  have F := Lib.hid fin; clear fin
  by_cases h1 : a.client < b.client
  · go_enter Try.func30, Try.ntmps30
    go_wp2
    go_ret
    exact ⟨ret_bool (by simp [lessB, h1]), F.out⟩
  · by_cases h2 : a.client = b.client
    · have h3 : (a.client == b.client) = true := by simp [h2]
      have H2 := Lib.hid h2; clear h2
      go_enter Try.func30, Try.ntmps30
      go_wp2
      go_ret
      exact ⟨ret_bool (by simp [lessB, H2.out]), F.out⟩
    · have h3 : (a.client == b.client) = false := by simp [h2]
      go_enter Try.func30, Try.ntmps30
      go_wp2
      go_ret
      exact ⟨ret_bool (by simp [lessB, h2]; omega), F.out⟩

end Go.Proofs.Yteockodnfempfaa
