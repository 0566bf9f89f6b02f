/- What audit.Fair computes. Conditions: those named in each theorem. -/
import Derived.Test.YteockodnfempfaaAudE
namespace Go.Proofs.Yteockodnfempfaa
open Go Go.RowKit Go.Gv

/-- A slice of slices of entries reads as a list of lists. -/
def LogsIs (w : World) (B : Nat) (A : Option Addr) (n : Nat) (ls : List (List GEntry)) : Prop :=
  ∃ hs : List Hdr, Sl Hdr w B A n hs ∧ hs.length = ls.length ∧ ∀ (i : Nat) (h : Hdr) (l : List GEntry), hs[i]? = some h → ls[i]? = some l → Sl GEntry w B h.a h.len l ∧ h.len ≤ h.cap ∧ h.cap ≤ maxLen
theorem LogsIs.len {w : World} {B : Nat} {A : Option Addr} {n : Nat} {ls : List (List GEntry)} (h : LogsIs w B A n ls) : ls.length = n := by
  obtain ⟨hs, h1, h2, _⟩ := h; rw [← h2]; exact h1.1
theorem LogsIs.below {w w' : World} {B : Nat} {A : Option Addr} {n : Nat} {ls : List (List GEntry)} (h : LogsIs w B A n ls) (hb : Below B w w') : LogsIs w' B A n ls := by
  obtain ⟨hs, h1, h2, h3⟩ := h
  exact ⟨hs, h1.below hb, h2, fun i h l a b => ⟨(h3 i h l a b).1.below hb, (h3 i h l a b).2⟩⟩
theorem LogsIs.at_ {w : World} {B : Nat} {A : Option Addr} {n : Nat} {ls : List (List GEntry)} (h : LogsIs w B A n ls) {k : Nat} (hk : k < n) :
    ∃ (ad : Addr) (A2 : Option Addr) (n2 c2 : Nat) (l : List GEntry), A = some ad ∧ ad.block < B ∧ ls[k]? = some l ∧ w.cell? (ad.add k) = some (.slice A2 n2 c2) ∧ Sl GEntry w B A2 n2 l ∧ n2 ≤ c2 ∧ c2 ≤ maxLen := by
  obtain ⟨hs, h1, h2, h3⟩ := h
  obtain ⟨ad, hd, e, hb, hx, hg⟩ := h1.at_ hk
  have hl : k < ls.length := by rw [← h2]; rw [h1.1]; exact hk
  have hls : ls[k]? = some ls[k] := List.getElem?_eq_getElem hl
  have hc := get1 (v := Hdr.val hd) rfl hg
  simp only [show Enc.n Hdr = 1 from rfl, Nat.mul_one] at hc
  exact ⟨ad, hd.a, hd.len, hd.cap, ls[k], e, hb, hls, hc, h3 k hd _ hx hls⟩

/-- A map's value reads as a list of times for each name. -/
def StampsIs (w : World) (B : Nat) (mv : Value) (sh : GName → Hdr) (st : GName → List U64) : Prop :=
  (∀ W, Below B w W → ∀ k, (gLookup 37 mv (GName.val k) false).run Try.prog W = .ok (Hdr.val (sh k)) W) ∧ ∀ k, Sl U64 w B (sh k).a (sh k).len (st k) ∧ (sh k).len ≤ maxLen

theorem stampsNil (w : World) (B : Nat) : StampsIs w B (.map none) (fun _ => default) (fun _ => []) :=
  ⟨fun W _ k => by rw [ln_37], fun _ => ⟨Sl.nil, Nat.zero_le _⟩⟩
theorem stampsMap {w : World} {B r : Nat} {m : List (GName × Hdr)} {st : GName → List U64} (hm : mapAt GName Hdr w r = some m) (hr : r < B)
    (h : ∀ k, Sl U64 w B ((mget m k).getD default).a ((mget m k).getD default).len (st k) ∧ ((mget m k).getD default).len ≤ maxLen) : StampsIs w B (.map (some r)) (fun k => (mget m k).getD default) st :=
  ⟨fun W hW k => by rw [lk_37, mapAt_below hW hr, hm]; rfl, h⟩

def fairB (ls : List (List GEntry)) (st : GName → List U64) : Bool :=
  ls.all fun l => (List.range l.length).all fun i => (List.range i).all fun j => !belowB (st (l.getD i default).name) (st (l.getD j default).name)
theorem getD_of {α : Type} {l : List α} {i : Nat} {x d : α} (h : l[i]? = some x) : l.getD i d = x := by simp [List.getD, h]
theorem fairB_iff (ls : List (List GEntry)) (st : GName → List U64) : fairB ls st = true ↔ ∀ l ∈ ls, ∀ (i j : Nat) (b a : GEntry), l[i]? = some b → l[j]? = some a → j < i → belowB (st b.name) (st a.name) = false := by
  unfold fairB
  simp only [List.all_eq_true, List.mem_range, Bool.not_eq_true']
  constructor
  · intro h l hl i j b a hi hj hji
    have := h l hl i (List.getElem?_eq_some_iff.1 hi).1 j hji
    rwa [getD_of hi, getD_of hj] at this
  · intro h l hl i hi j hji
    have hi' : l[i]? = some l[i] := List.getElem?_eq_getElem hi
    have hj' : l[j]? = some (l[j]'(by omega)) := List.getElem?_eq_getElem _
    rw [getD_of hi', getD_of hj']
    exact h l hl i j _ _ hi' hj' hji
theorem fairB_no {ls : List (List GEntry)} {st : GName → List U64} {l : List GEntry} {k i j : Nat} {a b : GEntry} (hl : ls[k]? = some l) (hi : l[i]? = some b) (hj : l[j]? = some a) (hji : j < i) (h : belowB (st b.name) (st a.name) = true) : fairB ls st = false := by
  cases hq : fairB ls st with
  | false => rfl
  | true =>
    have := (fairB_iff ls st).1 hq l (List.mem_of_getElem? hl) i j b a hi hj hji
    rw [h] at this; cases this

theorem below_is (r : Bool) (A B : Option Addr) (n m c d : Nat) (xs ys : List U64) (w : World) (B0 : Nat) (hr : belowB xs ys = r) (hx : Sl U64 w B0 A n xs) (hy : Sl U64 w B0 B m ys) (hn : n ≤ maxLen) (hm : m ≤ maxLen) :
    Calls Try.prog 68 #[.slice A n c, .slice B m d] w fun e w' => e = .returned (.bool r) ∧ w' = w := by
  subst hr; exact flipC (below_any A B n m c d xs ys w B0 hx hy hn hm)
set_option maxHeartbeats 1000000 in
theorem fair_any (A : Option Addr) (n c : Nat) (ls : List (List GEntry)) (mv : Value) (sh : GName → Hdr) (st : GName → List U64) (w : World) (hx : LogsIs w w.heap.size A n ls) (hs : StampsIs w w.heap.size mv sh st) (hn : n ≤ maxLen) :
    Calls Try.prog 27 #[.slice A n c, mv] w fun e w' => e = .returned (.bool (fairB ls st)) ∧ Below w.heap.size w w' := by
  unfold maxLen at hn
  have H := Lib.hid hx; clear hx
  have HT := Lib.hid hs; clear hs
  go_enter Try.func27, Try.ntmps27
  go_wp2
  go_loopw [13] (fun i wr => ∃ (k : Nat), k ≤ n ∧ i = .int .i64 k ∧ fairB (ls.take k) st = true ∧ Below w.heap.size w wr) (fun i _ => n - (intOf i).toNat)
  case atStart => exact ⟨0, by omega, rfl, by simp [fairB], Below.refl _ _⟩
  case round =>
    obtain ⟨k, hk, rfl, hall, hb⟩ := hrel
    have HA := Lib.hid hall; clear hall
    have HB := Lib.hid hb; clear hb
    by_cases hlt : k < n
    · obtain ⟨ad, A2, n2, c2, l, rfl, hadb, hlk, hc, hsl, hdl, hdc⟩ := (H.out.below HB.out).at_ (k := k) hlt
      have HL := Lib.hid hlk; have HS := Lib.hid hsl; clear hlk hsl
      unfold maxLen at hdc
      obtain ⟨wo, rfl⟩ : ∃ wo : World, wo = wr := ⟨_, rfl⟩
      go_wp2
      go_loopw [19] (fun i wr => ∃ (p : Nat), p ≤ n2 ∧ i = .int .i64 p ∧ fairB [l.take p] st = true ∧ Below w.heap.size w wr) (fun i _ => n2 - (intOf i).toNat)
      case atStart => exact ⟨0, by omega, rfl, by simp [fairB], HB.out⟩
      case round =>
        obtain ⟨p, hp, rfl, hall2, hb2⟩ := hrel
        have HA2 := Lib.hid hall2; clear hall2
        have HB2 := Lib.hid hb2; clear hb2
        have HSw := Lib.hid (HS.out.back HB.out)
        by_cases hlp : p < n2
        · obtain ⟨ae, b, hae, haeb, hbk, hgb⟩ := (HSw.out.below HB2.out).at_ (k := p) hlp
          have HBK := Lib.hid hbk; clear hbk
          change get? GEntry wr (ae.add (p * 35)) = some b at hgb
          subst hae
          obtain ⟨wm, rfl⟩ : ∃ wm : World, wm = wr := ⟨_, rfl⟩
          have hsm := HB2.out.size
          have hal := Lib.hid ((HB2.out.alloc HB2.out.size (.cells (GEntry.enc b).toArray 30)))
          have hnw := Lib.hid (nw30 wm wm.heap.size b rfl)
          go_wp2
          go_loopw [28] (fun i wr => ∃ (q : Nat), q ≤ p ∧ i = .int .i64 q ∧ (∀ j a, j < q → l[j]? = some a → belowB (st b.name) (st a.name) = false) ∧ Below w.heap.size w wr ∧ get? GEntry wr ⟨wm.heap.size, 0, none⟩ = some b) (fun i _ => p - (intOf i).toNat)
          case atStart => exact ⟨0, by omega, rfl, by intro j a hj; omega, hal.out, hnw.out⟩
          case round =>
            obtain ⟨q, hq, rfl, hall3, hb3, hgbb⟩ := hrel
            have HA3 := Lib.hid hall3; clear hall3
            have HB3 := Lib.hid hb3; clear hb3
            by_cases hlq : q < p
            · obtain ⟨ae', a, hae', _, hak, hga⟩ := (HSw.out.below HB3.out).at_ (k := q) (by omega)
              obtain rfl : ae = ae' := by injection hae'
              have HAK := Lib.hid hak; clear hak hae'
              change get? GEntry wr (ae.add (q * 35)) = some a at hga
              have hsz := get?_lt hgbb
              have hsz1 : wm.heap.size < wr.heap.size := hsz
              have hnm := Lib.hid (GEntry.at_name hgbb)
              have hgn : get? GName wr ⟨wm.heap.size, 0, none⟩ = some b.name := by have := hnm.out; simpa [Addr.add] using this
              have hst : ∀ k q, (gLookup 37 mv (GName.val k) false).run Try.prog ((wr.alloc (.cells (GEntry.enc a).toArray 30)).drewN q) = .ok (Hdr.val (sh k)) ((wr.alloc (.cells (GEntry.enc a).toArray 30)).drewN q) := fun k q => HT.out.1 _ (bdN (HB3.out.alloc HB3.out.size _) q) k
              have hal3 := Lib.hid (HB3.out.alloc HB3.out.size (.cells (GEntry.enc a).toArray 30))
              cases hbl : belowB (st b.name) (st a.name)
              · go_wp2
                go_quiet ((go_at_call 68; exact Calls.quiet_of_same (below_is _ _ _ _ _ _ _ _ _ _ _ hbl ((HT.out.2 _).1.below (bdN (HB3.out.alloc HB3.out.size _) _)) ((HT.out.2 _).1.below (bdN (HB3.out.alloc HB3.out.size _) _)) (HT.out.2 _).2 (HT.out.2 _).2)))
                go_wp2
                go_roundw
                case rel =>
                  refine ⟨q + 1, by omega, by go_num, fun j a' hj ha' => ?_, bdN hal3.out _, ?_⟩
                  · by_cases he : j = q
                    · subst he; have e1 := HAK.out; rw [e1] at ha'; injection ha' with ha'; subst ha'; exact hbl
                    · exact HA3.out j a' (by omega) ha'
                  · rw [get?_drewN]; exact get?_alloc _ hgbb
                case measure => simp [intOf] <;> omega
              · go_wp2
                go_quiet ((go_at_call 68; exact Calls.quiet_of_same (below_is _ _ _ _ _ _ _ _ _ _ _ hbl ((HT.out.2 _).1.below (bdN (HB3.out.alloc HB3.out.size _) _)) ((HT.out.2 _).1.below (bdN (HB3.out.alloc HB3.out.size _) _)) (HT.out.2 _).2 (HT.out.2 _).2)))
                go_wp2
                go_ret
                exact ⟨ret_bool (fairB_no HL.out HBK.out HAK.out hlq hbl).symm, bdN hal3.out _⟩
            · go_wp2
              go_roundw
              case rel =>
                refine ⟨p + 1, by omega, by go_num, ?_, HB3.out⟩
                have e0 := (fairB_iff _ _).1 HA2.out
                rw [fairB_iff]
                intro l' hl' i j b' a hi hj hji
                simp only [List.mem_singleton] at hl'
                subst hl'
                have hip : i < p + 1 := by have := (List.getElem?_eq_some_iff.1 hi).1; simp at this; omega
                rw [List.getElem?_take_of_lt hip] at hi
                rw [List.getElem?_take_of_lt (by omega)] at hj
                by_cases he : i = p
                · subst he
                  have e1 := HBK.out
                  rw [e1] at hi; injection hi with hi; subst hi
                  exact HA3.out j a (by omega) hj
                · exact e0 (l.take p) (by simp) i j b' a (by rw [List.getElem?_take_of_lt (by omega)]; exact hi) (by rw [List.getElem?_take_of_lt (by omega)]; exact hj) hji
              case measure => simp [intOf] <;> omega
        · go_wp2
          go_roundw
          case rel =>
            refine ⟨k + 1, by omega, by go_num, ?_, HB2.out⟩
            have e := HA2.out
            rw [List.take_of_length_le (by have := HS.out.1; omega)] at e
            rw [fairB_iff] at e ⊢
            have e0 := (fairB_iff _ _).1 HA.out
            intro l' hl' i j b a hi hj hji
            rcases mem_take_succ HL.out hl' with h | h
            · exact e0 l' h i j b a hi hj hji
            · subst h; exact e l' (by simp) i j b a hi hj hji
          case measure => simp [intOf] <;> omega
    · go_wp2
      go_ret
      refine ⟨ret_bool ?_, HB.out⟩
      have := HA.out
      rw [List.take_of_length_le (by have := H.out.len; omega)] at this
      exact this.symm

end Go.Proofs.Yteockodnfempfaa
