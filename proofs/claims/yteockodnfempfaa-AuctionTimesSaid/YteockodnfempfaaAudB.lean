/- What audit.Once computes. Conditions: those named in each theorem. -/
import Derived.Test.YteockodnfempfaaAudA
namespace Go.Proofs.Yteockodnfempfaa
open Go Go.RowKit Go.Gv

def onceB (xs : List GEntry) : Bool := decide ((xs.map (·.name)).Nodup)

theorem nodup_step {α : Type} {xs : List α} {k : Nat} {x : α} (hx : xs[k]? = some x) : xs.take (k + 1) = xs.take k ++ [x] := by
  have hk : k < xs.length := (List.getElem?_eq_some_iff.1 hx).1
  rw [List.take_succ_eq_append_getElem hk]
  rw [List.getElem?_eq_getElem hk] at hx
  injection hx with hx; rw [hx]

structure OnceInv (xs : List GEntry) (k : Nat) (m : List (GName × Bool)) : Prop where
  look : ∀ n, (mget m n).getD false = decide (n ∈ (xs.take k).map (·.name))
  nd : ((xs.take k).map (·.name)).Nodup
theorem OnceInv.step {xs : List GEntry} {k : Nat} {m : List (GName × Bool)} (h : OnceInv xs k m) {x : GEntry} (hx : xs[k]? = some x) (hn : (mget m x.name).getD false = false) : OnceInv xs (k + 1) (mset m x.name true) := by
  have hn' : x.name ∉ (xs.take k).map (·.name) := by have := h.look x.name; rw [hn] at this; simpa using this.symm
  constructor
  · intro n
    rw [nodup_step hx]
    by_cases he : n = x.name
    · subst he; rw [mget_mset_same]; simp
    · rw [mget_mset_other m true he, h.look n]
      simp [he]
  · rw [nodup_step hx, List.map_append, List.nodup_append]
    refine ⟨h.nd, by simp, ?_⟩
    intro a ha b hb
    simp at hb; subst hb
    intro e; subst e; exact hn' ha
theorem OnceInv.bad {xs : List GEntry} {k : Nat} {m : List (GName × Bool)} (h : OnceInv xs k m) {x : GEntry} (hx : xs[k]? = some x) (hn : (mget m x.name).getD false = true) : onceB xs = false := by
  have hn' : x.name ∈ (xs.take k).map (·.name) := by have := h.look x.name; rw [hn] at this; simpa using this.symm
  unfold onceB
  rw [decide_eq_false_iff_not]
  intro hd
  have h2 : ((xs.take (k + 1)).map (·.name)).Nodup := List.Nodup.sublist ((List.take_sublist _ _).map _) hd
  rw [nodup_step hx, List.map_append, List.nodup_append] at h2
  exact h2.2.2 _ hn' x.name (by simp) rfl

set_option maxHeartbeats 400000 in
theorem once_any (A : Option Addr) (n c : Nat) (xs : List GEntry) (w : World) (hx : Sl GEntry w w.heap.size A n xs) (hn : n ≤ maxLen) :
    Calls Try.prog 31 #[.slice A n c] w fun e w' => e = .returned (.bool (onceB xs)) ∧ Below w.heap.size w w' := by
  unfold maxLen at hn
  have H := Lib.hid hx; clear hx
  have hmm := @run_makeMap Try.prog
  go_enter Try.func31, Try.ntmps31
  go_wp2
  go_loopw [9] (fun i wr => ∃ (k : Nat) (m : List (GName × Bool)), k ≤ n ∧ i = .int .i64 k ∧ mapAt GName Bool wr w.heap.size = some m ∧ OnceInv xs k m ∧ Below w.heap.size w wr ∧ w.heap.size < wr.heap.size) (fun i _ => n - (intOf i).toNat)
  case atStart => exact ⟨0, [], by omega, rfl, mapAt_new _ _ _, ⟨by intro n; simp [mget_nil], by simp⟩, (Below.refl _ _).alloc (Nat.le_refl _) _, by simp⟩
  case round =>
    obtain ⟨k, m, hk, rfl, hm, hinv, hb, hsz⟩ := hrel
    have HI := Lib.hid hinv; clear hinv
    have HB := Lib.hid hb; clear hb
    by_cases hlt : k < n
    · obtain ⟨ad, x, rfl, hab, hxk, hgx⟩ := (H.out.below HB.out).at_ (k := k) (by omega)
      have HX := Lib.hid hxk; clear hxk
      change get? GEntry wr (ad.add (k * 35)) = some x at hgx
      have hlen := mapAt_lt hm
      cases hn : (mget m x.name).getD false
      · have hm2 := mapAt_alloc (.cells (GEntry.enc x).toArray 30) hm
        have hp := Lib.hid (mapAt_mput kl25 um110 hm2 x.name true)
        have hg := Lib.hid (mput_grown kl25 um110 hm2 x.name true)
        have hs := Lib.hid (mput_size kl25 um110 hm2 x.name true)
        go_wp2
        go_roundw
        case rel => exact ⟨k + 1, _, by omega, by go_num, hp.out, HI.out.step HX.out hn, (HB.out.alloc HB.out.size _).grown hg.out (by simp; omega) (fun j hj => by cases hj; exact Nat.le_refl _), by rw [hs.out]; simp; omega⟩
        case measure => simp [intOf] <;> omega
      · go_wp2
        go_ret
        exact ⟨ret_bool (HI.out.bad HX.out hn).symm, HB.out.alloc HB.out.size _⟩
    · go_wp2
      go_ret
      refine ⟨ret_bool ?_, HB.out⟩
      have h2 := HI.out.nd
      rw [List.take_of_length_le (by have := H.out.1; omega)] at h2
      simp [onceB, h2]

end Go.Proofs.Yteockodnfempfaa
