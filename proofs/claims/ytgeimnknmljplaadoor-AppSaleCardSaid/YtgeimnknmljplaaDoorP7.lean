/- The registry: what its methods do. Conditions: those named in each theorem. -/
import Derived.Test.YtgeimnknmljplaaDoorP3
import Derived.Test.YtgeimnknmljplaaDoorP4
import Derived.Test.YtgeimnknmljplaaDoorP6
import Derived.Shelf.SlMaps.Clone
import Derived.Test.YtgeimnknmljplaaDoorP2
/- Worlds that differ in some blocks alone; slices by the blocks they lie in. Conditions: those named in each theorem. -/
namespace Go.Proofs.YtgeimnknmljplaaDoor
open Go Go.RowKit Go.Gv

/-- w' is w but for the blocks S, and new ones. -/
structure Chg (S : Nat → Prop) (w w' : World) : Prop where
  os : w'.os = w.os
  tape : w'.tape = w.tape
  output : w'.output = w.output
  size : w.heap.size ≤ w'.heap.size
  block : ∀ k, k < w.heap.size → ¬ S k → w'.heap[k]? = w.heap[k]?
theorem Chg.sub {S S' : Nat → Prop} {w w' : World} (h : Chg S w w') (hS : ∀ k, S k → S' k) : Chg S' w w' := ⟨h.os, h.tape, h.output, h.size, fun k hk hn => h.block k hk (fun hs => hn (hS k hs))⟩
section
variable {S S' : Nat → Prop} {w w' w2 : World}
theorem Chg.refl (S : Nat → Prop) (w : World) : Chg S w w := ⟨rfl, rfl, rfl, Nat.le_refl _, fun _ _ _ => rfl⟩
theorem Chg.trans (h : Chg S w w') (k : Chg S' w' w2) (hS : ∀ k, S' k → S k ∨ w.heap.size ≤ k) : Chg S w w2 :=
  ⟨k.os.trans h.os, k.tape.trans h.tape, k.output.trans h.output, Nat.le_trans h.size k.size, fun i hi hn => (k.block i (Nat.lt_of_lt_of_le hi h.size) (fun hs => by rcases hS i hs with h1 | h1; exact hn h1; omega)).trans (h.block i hi hn)⟩
theorem Chg.tr (h : Chg S w w') (k : Chg S w' w2) : Chg S w w2 := h.trans k fun _ h => .inl h
theorem Chg.of_bel (h : Bel w w') (S : Nat → Prop) : Chg S w w' := ⟨Below.os h, Below.tape h, Below.output h, Below.size h, fun k hk _ => Below.block h k hk⟩
theorem Chg.of_grown {row : Option Nat} (h : w.grownBy w' row) (hS : ∀ k, row = some k → S k) : Chg S w w' := ⟨h.os, h.tape, h.output, h.size, fun k hk hn => h.block k hk (fun e => hn (hS k e.symm))⟩
theorem Chg.bel (h : Chg S w w') (hS : ∀ k, S k → w.heap.size ≤ k) : Bel w w' := ⟨h.os, h.tape, h.output, h.size, fun k hk => h.block k hk (fun hs => by have := hS k hs; omega)⟩
theorem Chg.bel2 {w0 : World} (hb : Bel w0 w) (h : Chg S w w') (hS : ∀ k, S k → w0.heap.size ≤ k) : Bel w0 w' :=
  ⟨h.os.trans (Below.os hb), h.tape.trans (Below.tape hb), h.output.trans (Below.output hb), Nat.le_trans hb.size h.size, fun k hk => (h.block k (Nat.lt_of_lt_of_le hk hb.size) (fun hs => by have := hS k hs; omega)).trans (Below.block hb k hk)⟩
theorem Chg.cell {p : Addr} {v : Value} (h : Chg S w w') (hc : w.cell? p = some v) (hp : ¬ S p.block) : w'.cell? p = some v :=
  (World.cell?_of_block (w := w) (h.block _ (World.block_lt_of_cell? w _ hc) hp)).trans hc
theorem Chg.get {α : Type} [Enc α] {a : Addr} {x : α} (h : Chg S w w') (hg : get? α w a = some x) (hp : ¬ S a.block) : get? α w' a = some x := (get?_keep (h.block _ (get?_lt hg) hp)).trans hg
theorem Chg.free {n : Nat} (h : Chg S w w') (hf : blkFree w n = true) (hl : n < w.heap.size) (hn : ¬ S n) : blkFree w' n = true := (blkFree_keep (h.block _ hl hn)).trans hf
theorem Chg.map {K V : Type} [DecidableEq K] [KEnc K] [VEnc V] {r : Nat} {m : List (K × V)} (h : Chg S w w') (hm : mapAt K V w r = some m) (hr : ¬ S r) : mapAt K V w' r = some m := (mapAt_keep (h.block _ (mapAt_lt hm) hr)).trans hm
/-- A slice whose block, if it has elements, is one of Q. -/
def SlQ (α : Type) [Enc α] (Q : Nat → Prop) (w : World) (h : Hdr) (xs : List α) : Prop := Sl α w w.heap.size h.a h.len xs ∧ h.len ≤ h.cap ∧ h.cap ≤ maxLen ∧ (0 < h.len → ∀ ad, h.a = some ad → Q ad.block)
theorem _root_.Go.Gv.Sl.chg {α : Type} [Enc α] {A : Option Addr} {n : Nat} {xs : List α} (h : Chg S w w') (hs : Sl α w w.heap.size A n xs) (hx : 0 < n → ∀ ad, A = some ad → ¬ S ad.block) : Sl α w' w'.heap.size A n xs := by
  refine ⟨hs.1, fun hn => ?_⟩
  obtain ⟨ad, e, hb, hc⟩ := hs.2 hn
  exact ⟨ad, e, Nat.lt_of_lt_of_le hb h.size, fun k x hx' => Chg.get h (hc k x hx') (by rw [add_block]; exact hx hn ad e)⟩
theorem SlQ.chg {α : Type} [Enc α] {Q : Nat → Prop} {hd : Hdr} {xs : List α} (h : Chg S w w') (hs : SlQ α Q w hd xs) (hQ : ∀ k, Q k → ¬ S k) : SlQ α Q w' hd xs := ⟨Sl.chg h hs.1 (fun hn ad e => hQ _ (hs.2.2.2 hn ad e)), hs.2.1, hs.2.2.1, hs.2.2.2⟩
theorem SlQ.mono {α : Type} [Enc α] {Q Q' : Nat → Prop} {hd : Hdr} {xs : List α} (hs : SlQ α Q w hd xs) (hQ : ∀ k, k < w.heap.size → Q k → Q' k) : SlQ α Q' w hd xs :=
  ⟨hs.1, hs.2.1, hs.2.2.1, fun hn ad e => hQ _ (hs.1.block_lt hn e) (hs.2.2.2 hn ad e)⟩
theorem SlQ.bel {α : Type} [Enc α] {Q : Nat → Prop} {hd : Hdr} {xs : List α} (hs : SlQ α Q w hd xs) (hb : Bel w w') : SlQ α Q w' hd xs := ⟨hs.1.stepB hb, hs.2⟩
theorem _root_.Go.Gv.OwnS.keep {α : Type} [Enc α] {base : Nat} {e : TypeId} {v : Value} {xs : List α} (h : OwnS w base e v xs) (hk : ∀ k, v.ownBlock = some k → w'.heap[k]? = w.heap[k]?) : OwnS w' base e v xs := by
  refine ⟨h.1, ?_⟩
  rcases h.2 with ⟨h1, h2⟩ | ⟨g, cap, cur, hv, hb, hh, rest⟩
  · exact .inl ⟨h1, h2⟩
  · exact .inr ⟨g, cap, cur, hv, hb, (hk g (by rw [hv]; rfl)).trans hh, rest⟩
theorem _root_.Go.Gv.OwnS.chg {α : Type} [Enc α] {base : Nat} {e : TypeId} {v : Value} {xs : List α} (h : OwnS w base e v xs) (hc : Chg S w w') (hS : ∀ k, v.ownBlock = some k → ¬ S k) : OwnS w' base e v xs :=
  h.keep fun k hk => hc.block k (h.lt k hk).2 (hS k hk)
end
end Go.Proofs.YtgeimnknmljplaaDoor
/- Houses that stay small. Conditions: those named in each theorem. -/
namespace Go.Proofs.YtgeimnknmljplaaDoor
open Go Go.RowKit Go.Gv Go.Sort

def GoodH (H : MHouse) (kk : Nat) : Prop := H.length ≤ 64 ∧ ∀ q ∈ H, q.1.size ≤ 16 ∧ q.2.bids.length ≤ kk
theorem GoodH.mono {H : MHouse} {j k : Nat} (h : GoodH H j) (hjk : j ≤ k) : GoodH H k := ⟨h.1, fun q hq => ⟨(h.2 q hq).1, Nat.le_trans (h.2 q hq).2 hjk⟩⟩
theorem GoodH.nil (k : Nat) : GoodH [] k := ⟨by simp, by simp⟩
theorem GoodH.set {H : MHouse} {kk : Nat} (h : GoodH H kk) {k : ByteArray} {x : MSale} (hk : k.size ≤ 16) (hx : x.bids.length ≤ kk) (hl : k ∈ H.map (·.1) ∨ H.length < 64) : GoodH (mset H k x) kk := by
  unfold mset
  split
  · refine ⟨by simpa using h.1, fun q hq => ?_⟩
    rw [List.mem_map] at hq
    obtain ⟨p, hp, rfl⟩ := hq
    split
    · exact ⟨hk, hx⟩
    · exact h.2 p hp
  · rename_i hne
    have hl2 : H.length < 64 := hl.resolve_left hne
    refine ⟨by simp; omega, fun q hq => ?_⟩
    rw [List.mem_append, List.mem_singleton] at hq
    rcases hq with hq | rfl
    · exact h.2 q hq
    · exact ⟨hk, hx⟩
theorem openR_zero {H : MHouse} {name : ByteArray} {reserve close now : Int} (h : openR H name reserve close now = 0) : nameB name = true ∧ H.length < 64 := by
  unfold openR at h
  by_cases h1 : badOpen name reserve = true
  · rw [if_pos h1] at h; cases h
  rw [if_neg h1] at h
  by_cases h2 : (mget H name).isSome = true
  · rw [if_pos h2] at h; cases h
  rw [if_neg h2] at h
  by_cases h3 : close ≤ now
  · rw [if_pos h3] at h; cases h
  rw [if_neg h3] at h
  by_cases h4 : 64 ≤ H.length
  · rw [if_pos h4] at h; cases h
  refine ⟨?_, by omega⟩
  unfold badOpen at h1
  cases hn : nameB name
  · simp [hn] at h1
  · rfl
theorem nameB_size {s : ByteArray} (h : nameB s = true) : s.size ≤ 16 := by
  rw [nameB_eq] at h
  simp at h
  exact h.2.2
theorem GoodH.openH {H : MHouse} {kk : Nat} (h : GoodH H kk) (name : ByteArray) (v : Bool) (reserve close now : Int) : GoodH (openH H name v reserve close now) kk := by
  unfold Go.Proofs.YtgeimnknmljplaaDoor.openH
  split
  · rename_i h0
    obtain ⟨h1, h2⟩ := openR_zero h0
    exact h.set (nameB_size h1) (Nat.zero_le _) (.inr h2)
  · exact h
theorem mget_in {H : MHouse} {k : ByteArray} {x : MSale} (hx : mget H k = some x) : (k, x) ∈ H := by
  unfold mget at hx
  cases hf : H.find? (fun p => decide (p.1 = k)) with
  | none => rw [hf] at hx; cases hx
  | some p =>
    rw [hf] at hx
    injection hx with hx
    have h1 := List.find?_some hf
    have h2 := List.mem_of_find?_eq_some hf
    simp only [decide_eq_true_eq] at h1
    rw [← h1, ← hx]
    exact h2
theorem GoodH.get {H : MHouse} {kk : Nat} (_ : GoodH H kk) {k : ByteArray} {x : MSale} (hx : mget H k = some x) : (k, x) ∈ H := mget_in hx
theorem GoodH.bidH {H : MHouse} {kk : Nat} (h : GoodH H kk) (name : ByteArray) (client amount now : Int) : GoodH (bidH H name client amount now) (kk + 1) := by
  unfold Go.Proofs.YtgeimnknmljplaaDoor.bidH
  cases hm : mget H name with
  | none => exact h.mono (by omega)
  | some x =>
    show GoodH (if bidR H name client amount now = 0 then mset H name (x.bid client amount) else H) (kk + 1)
    have hx := h.get hm
    split
    · refine (h.mono (by omega)).set (h.2 _ hx).1 ?_ (.inl (List.mem_map.2 ⟨_, hx, rfl⟩))
      show (x.bids ++ [_]).length ≤ kk + 1
      have := (h.2 _ hx).2
      simp only at this
      rw [List.length_append]
      simp
      omega
    · exact h.mono (by omega)
theorem GoodH.settleH {H : MHouse} {kk : Nat} (h : GoodH H kk) (now : Int) : GoodH (settleH H now) kk := by
  unfold Go.Proofs.YtgeimnknmljplaaDoor.settleH
  refine ⟨by simpa using h.1, fun q hq => ?_⟩
  rw [List.mem_map] at hq
  obtain ⟨p, hp, rfl⟩ := hq
  split
  · exact h.2 p hp
  · exact h.2 p hp
/-- No bid lies in block k. -/
def NoBid (w : World) (k : Nat) : Prop := ∀ (p : Addr) (x : GAuctionBid), get? GAuctionBid w p = some x → p.block ≠ k
theorem NoBid.map {K V : Type} [DecidableEq K] [KEnc K] [VEnc V] {w : World} {r : Nat} {m : List (K × V)} (hm : mapAt K V w r = some m) : NoBid w r := fun _ _ h => get?_in_map hm h
theorem SaleIs.off {S : Nat → Prop} {w w' : World} (hO : ∀ k, S k → NoBid w k) (hc : Chg S w w') {s : GAuctionSale} {x : MSale} (h : SaleIs w s x) : SaleIs w' s x := by
  obtain ⟨hd, h1, h2, h3⟩ := h
  refine ⟨hd, h1, Sl.chg hc h2 (fun hn ad e hS => ?_), h3⟩
  obtain ⟨ad', x, e', _, _, hg⟩ := h2.at_ (k := 0) hn
  rw [e] at e'
  injection e' with e'
  subst e'
  exact hO _ hS _ _ hg (add_block _ _)
theorem HouseIs.off2 {S : Nat → Prop} {w w' : World} {p : Addr} {r : Nat} {H : MHouse} (h : HouseIs w p r H) (hO : ∀ k, S k → NoBid w k) (hc : Chg S w w') (hp : ¬ S p.block) (hr : ¬ S r) : HouseIs w' p r H := by
  obtain ⟨h1, m, hm, h2⟩ := h
  exact ⟨hc.cell h1 hp, m, hc.map hm hr, HRel.mono (fun _ _ hs => SaleIs.off hO hc hs) h2⟩
theorem HouseIs.nodup {w : World} {p : Addr} {r : Nat} {H : MHouse} (h : HouseIs w p r H) : (H.map (·.1)).Nodup := by
  obtain ⟨_, m, hm, hr⟩ := h
  exact mapAt_nodup_H hr hm
end Go.Proofs.YtgeimnknmljplaaDoor
/- A house cloned. Conditions: those named in each theorem. -/
namespace Go.Proofs.YtgeimnknmljplaaDoor
open Go Go.RowKit Go.Gv Go.Sort Go.Proofs

end Go.Proofs.YtgeimnknmljplaaDoor
/- Maps read as lists: an entry taken out. Conditions: those named in each theorem. -/
namespace Go.Gv
open Go Go.RowKit

section
set_option linter.unusedSectionVars false
variable {K V : Type} [DecidableEq K] [KEnc K] [VEnc V] {P : Program} {tK tM tV : TypeId}
theorem mdel_eq_erase : ∀ {m : List (K × V)} {i : Nat} (h : i < m.length) {k : K}, (m.map (·.1)).Nodup → m[i].1 = k → mdel m k = m.eraseIdx i
  | p :: m, 0, _, k, hn, hk => by
    simp only [List.map_cons, List.nodup_cons] at hn
    simp only [List.getElem_cons_zero] at hk
    unfold mdel
    rw [List.eraseIdx_cons_zero, List.filter_cons_of_neg (by simp [hk]), List.filter_eq_self]
    intro q hq
    have : q.1 ≠ k := fun e => hn.1 (by rw [hk, ← e]; exact List.mem_map.2 ⟨q, hq, rfl⟩)
    simp [this]
  | p :: m, i + 1, h, k, hn, hk => by
    simp only [List.map_cons, List.nodup_cons] at hn
    simp only [List.getElem_cons_succ] at hk
    have hil : i < m.length := by simpa using h
    have hne : ¬ p.1 = k := fun e => hn.1 (by rw [e, ← hk]; exact List.mem_map.2 ⟨m[i], List.getElem_mem _, rfl⟩)
    have ih := mdel_eq_erase (m := m) hil hn.2 hk
    unfold mdel at ih ⊢
    rw [List.eraseIdx_cons_succ, List.filter_cons_of_pos (by simp [hne]), ih]
theorem map_erase {α β : Type} (f : α → β) : ∀ (l : List α) (i : Nat), (l.eraseIdx i).map f = (l.map f).eraseIdx i
  | [], _ => rfl
  | _ :: _, 0 => rfl
  | a :: l, i + 1 => by rw [List.eraseIdx_cons_succ, List.map_cons, List.map_cons, List.eraseIdx_cons_succ, map_erase f l i]
theorem mdel_none {m : List (K × V)} {k : K} (h : k ∉ m.map (·.1)) : mdel m k = m := by
  unfold mdel
  rw [List.filter_eq_self]
  intro q hq
  have : q.1 ≠ k := fun e => h (by rw [← e]; exact List.mem_map.2 ⟨q, hq, rfl⟩)
  simp [this]
theorem run_delete_ex (L : KeyLaws P tK K) (hM : P.underlying tM = some (.map tK tV)) {w : World} {r : Nat} {m : List (K × V)} (h : mapAt K V w r = some m) (k : K) (ty : TypeId) :
    ∃ w', (Builtin.delete_ #[tM, tK] ty #[.map (some r), KEnc.kv k]).run P w = .ok (.tuple #[]) w' ∧ mapAt K V w' r = some (mdel m k) ∧ GX r w w' := by
  obtain ⟨es, c, hb, he, hn, hp, hc⟩ := mapAt_iff.1 h
  have hlt : r < w.heap.size := (Array.getElem?_eq_some_iff.1 hb).1
  have hk : es.toList.map (·.key) = (m.map (·.1)).map KEnc.kv := by
    have := congrArg (List.map Prod.fst) he
    simpa [List.map_map, Function.comp_def] using this
  have hl : es.toList.length = m.length := by have := congrArg List.length he; simpa using this
  have hf := L.fnd k es.toList (m.map (·.1)) w hk
  have hg : (getObj r).run P w = .ok (.map es c) w := by simp [getObj, Sem.run, hb]
  have hs : ∀ o, (setObj r o).run P w = .ok () { w with heap := w.heap.setIfInBounds r o } := fun o => by simp [setObj, Sem.run, hb]
  by_cases hmem : k ∈ m.map (·.1)
  · cases hi : (m.map (·.1)).findIdx? fun x => decide (x = k) with
    | none =>
      rw [List.findIdx?_eq_none_iff] at hi
      have := hi k hmem
      simp at this
    | some i =>
      obtain ⟨hil, hik, _⟩ := List.findIdx?_eq_some_iff_getElem.1 hi
      have hlt' : i < m.length := by simpa using hil
      have hle : i < es.toList.length := by omega
      have hik' : m[i].1 = k := by simpa using hik
      have hel : (es.eraseIdxIfInBounds i).toList = es.toList.eraseIdx i := by
        have hi9 : i < es.size := by simpa using hle
        unfold Array.eraseIdxIfInBounds
        rw [dif_pos hi9, Array.toList_eraseIdx]
      refine ⟨{ w with heap := w.heap.setIfInBounds r (.map (es.eraseIdxIfInBounds i) c) }, ?_, ?_, ?_⟩
      · simp only [Builtin.delete_, Sem.run_bind, run_underlying hM, Result.andThen_ok, hg, L.chk, hf, hi, Option.bind_some, List.getElem?_eq_getElem hle, Option.map_some, hs, Sem.run_pure, List.getElem?_toArray, List.getElem?_cons_zero, List.getElem?_cons_succ]
      · refine mapAt_iff.2 ⟨es.eraseIdxIfInBounds i, c, by simp [hlt], ?_, ?_, ?_, ?_⟩
        · rw [mdel_eq_erase hlt' hn hik', hel, map_erase, he, map_erase]
        · unfold mdel
          exact hn.sublist (List.filter_sublist.map _)
        · rw [hel]
          exact hp.sublist (List.eraseIdx_sublist _ _)
        · intro e hm2
          rw [hel] at hm2
          exact hc e ((List.eraseIdx_sublist _ _).mem hm2)
      · refine ⟨rfl, rfl, rfl, by simp, fun j hj hne => ?_⟩
        show (w.heap.setIfInBounds r _)[j]? = _
        rw [Array.getElem?_setIfInBounds_ne (by intro e; exact hne (by rw [e]))]
  · refine ⟨{ w with heap := w.heap.setIfInBounds r (.map es c) }, ?_, ?_, ?_⟩
    · simp only [Builtin.delete_, Sem.run_bind, run_underlying hM, Result.andThen_ok, hg, L.chk, hf, findIdx_none hmem, Option.bind_none, Sem.run_pure, List.getElem?_toArray, List.getElem?_cons_zero, List.getElem?_cons_succ, hs]
    · rw [mdel_none hmem]
      exact mapAt_iff.2 ⟨es, c, by simp [hlt], he, hn, hp, hc⟩
    · refine ⟨rfl, rfl, rfl, by simp, fun j hj hne => ?_⟩
      show (w.heap.setIfInBounds r _)[j]? = _
      rw [Array.getElem?_setIfInBounds_ne (by intro e; exact hne (by rw [e]))]
end
end Go.Gv
/- The registry: what its methods do. Conditions: those named in each theorem. -/
namespace Go.Proofs.YtgeimnknmljplaaDoor
open Go Go.RowKit Go.Gv Go.Proofs

abbrev MReg := List (ByteArray × Int)
/-- At p lies a registry over the map in block r. -/
def RegIs (w : World) (p : Addr) (r : Nat) (Q : MReg) : Prop := w.cell? p = some (.map (some r)) ∧ mapAt ByteArray Int w r = some Q
section
variable {w w' : World} {p : Addr} {r : Nat} {Q : MReg}
theorem RegIs.step (h : RegIs w p r Q) (hb : Bel w w') : RegIs w' p r Q := ⟨GB.cell hb h.1, (mapAt_keep (Below.block hb _ (mapAt_lt h.2))).trans h.2⟩
theorem RegIs.chg {S : Nat → Prop} (h : RegIs w p r Q) (hc : Chg S w w') (hp : ¬ S p.block) (hr : ¬ S r) : RegIs w' p r Q := ⟨hc.cell h.1 hp, hc.map h.2 hr⟩
theorem RegIs.gx {r2 : Nat} (h : RegIs w p r Q) (hg : GX r2 w w') (hp : p.block ≠ r2) (hr : r ≠ r2) : RegIs w' p r Q :=
  h.chg (S := fun q => q = r2) (Chg.of_grown hg fun k e => by injection e with e; exact e.symm) hp hr
theorem RegIs.ltr (h : RegIs w p r Q) : r < w.heap.size := mapAt_lt h.2
end
def mayB (item : ByteArray) (client : Int) : Bool := nameB item && (decide (0 ≤ client) && decide (client < 100))
theorem may_any (item : ByteArray) (client : Int) (w : World) (hn : item.size ≤ maxLen) :
    Calls Tryd.prog 37 #[.string item, .int .i64 client] w fun e w' => e = .returned (.bool (mayB item client)) ∧ w' = w := by
  obtain ⟨nb, hnb⟩ : ∃ nb, nameB item = nb := ⟨_, rfl⟩
  have HNB := Lib.hid hnb
  have HM := Lib.hid (show mayB item client = (nb && (decide (0 ≤ client) && decide (client < 100))) by unfold mayB; rw [hnb])
  clear hnb
  cases nb
  · go_enter Tryd.func37, Tryd.ntmps37
    go_wp2_with fail
    refine (name_is false item _ HNB.out hn).mono ?_
    rintro _ w1 ⟨rfl, rfl⟩
    go_wp2_with fail
    go_ret
    exact ⟨by rw [HM.out]; rfl, rfl⟩
  · obtain ⟨b1, hb1⟩ : ∃ b, decide (0 ≤ client) = b := ⟨_, rfl⟩
    obtain ⟨b2, hb2⟩ : ∃ b, decide (client < 100) = b := ⟨_, rfl⟩
    have HV := Lib.hid (show mayB item client = (b1 && b2) by rw [HM.out, hb1, hb2, Bool.true_and])
    cases b1
    · have h1 : ¬ 0 ≤ client := of_decide_eq_false hb1
      clear hb1 hb2
      go_enter Tryd.func37, Tryd.ntmps37
      go_wp2_with fail
      refine (name_is true item _ HNB.out hn).mono ?_
      rintro _ w1 ⟨rfl, rfl⟩
      go_wp2_with fail
      go_ret
      exact ⟨ret_bool (by rw [HV.out]; rfl), rfl⟩
    · have h1 : 0 ≤ client := of_decide_eq_true hb1
      clear hb1
      go_enter Tryd.func37, Tryd.ntmps37
      go_wp2_with fail
      refine (name_is true item _ HNB.out hn).mono ?_
      rintro _ w1 ⟨rfl, rfl⟩
      go_wp2_with fail
      go_ret
      exact ⟨ret_bool (by rw [HV.out]; rfl), rfl⟩
theorem may_is (b : Bool) (item : ByteArray) (client : Int) (w : World) (hb : mayB item client = b) (hn : item.size ≤ maxLen) :
    Calls Tryd.prog 37 #[.string item, .int .i64 client] w fun e w' => e = .returned (.bool b) ∧ w' = w := by
  subst hb; exact may_any item client w hn
def reserveR (Q : MReg) (item : ByteArray) (client : Int) : Int := if mayB item client = true then if (mget Q item).isSome = true then 5 else if 64 ≤ Q.length then 7 else 0 else 1
def reserveQ (Q : MReg) (item : ByteArray) (client : Int) : MReg := if reserveR Q item client = 0 then mset Q item client else Q
def releaseR (Q : MReg) (item : ByteArray) (client : Int) : Int := if mayB item client = true then match mget Q item with | none => 6 | some who => if who = client then 0 else 12 else 1
def releaseQ (Q : MReg) (item : ByteArray) (client : Int) : MReg := if releaseR Q item client = 0 then mdel Q item else Q
set_option maxHeartbeats 400000 in
theorem newReg_any (w : World) : Calls Tryd.prog 12 #[] w fun e w' => ∃ p r : Nat, e = .returned (.pointer (some ⟨p, 0, none⟩)) ∧ RegIs w' ⟨p, 0, none⟩ r [] ∧ w.heap.size ≤ p ∧ w.heap.size ≤ r ∧ p ≠ r ∧ p < w'.heap.size ∧ Bel w w' := by
  have hmm := @run_makeMap Tryd.prog
  go_enter Tryd.func12, Tryd.ntmps12
  go_wp2
  go_ret
  refine ⟨w.heap.size + 1, w.heap.size, rfl, ⟨?_, ?_⟩, by omega, by omega, by omega, by simp, ((Bel.refl w).alloc _).alloc _⟩
  · exact cell_zero (GRegistryRegistry.at_m (nw64 (w.alloc (.map #[] 0)) (w.heap.size + 1) ⟨some w.heap.size⟩ (by simp)))
  · exact mapAt_alloc _ (mapAt_new _ _ w)
set_option maxHeartbeats 400000 in
theorem owner_any (p : Addr) (r : Nat) (Q : MReg) (item : ByteArray) (w : World) (h : RegIs w p r Q) :
    Calls Tryd.prog 38 #[.pointer (some p), .string item] w fun e w' => e = .returned (.tuple #[.int .i64 ((mget Q item).getD 0), .bool (mget Q item).isSome]) ∧ w' = w := by
  obtain ⟨hc, hm⟩ := h
  go_enter Tryd.func38, Tryd.ntmps38
  go_wp2_with fail
  go_ret2
  exact ⟨rfl, rfl⟩
def RegDid (w : World) (p : Addr) (r : Nat) (c : Int) (Q' : MReg) (e : Ending) (w' : World) : Prop := e = .returned (.int .i64 c) ∧ RegIs w' p r Q' ∧ GX r w w'
theorem RegDid.no {w : World} {p : Addr} {r : Nat} {c : Int} {Q : MReg} (h : RegIs w p r Q) : RegDid w p r c Q (.returned (.int .i64 c)) w := ⟨rfl, h, GX.rf w⟩
set_option maxRecDepth 100000 in
set_option maxHeartbeats 1000000 in
theorem reserve_any (p : Addr) (r : Nat) (Q : MReg) (item : ByteArray) (client : Int) (w : World) (h : RegIs w p r Q) (hp : p.block ≠ r) (hn : item.size ≤ maxLen) (hl : Q.length ≤ maxLen) :
    Calls Tryd.prog 20 #[.pointer (some p), .string item, .int .i64 client] w (RegDid w p r (reserveR Q item client) (reserveQ Q item client)) := by
  have HH := Lib.hid h
  obtain ⟨hc, hm⟩ := h
  unfold maxLen at hl
  obtain ⟨n, hnl⟩ : ∃ n, Q.length = n := ⟨_, rfl⟩
  rw [hnl] at hl
  obtain ⟨mb, hmb⟩ : ∃ b, mayB item client = b := ⟨_, rfl⟩
  have HMB := Lib.hid hmb; have HNL := Lib.hid hnl
  obtain ⟨z0, hz0⟩ : ∃ z, (mget Q item).getD 0 = z := ⟨_, rfl⟩
  obtain ⟨is, his⟩ : ∃ b, (mget Q item).isSome = b := ⟨_, rfl⟩
  have HIS := Lib.hid his
  have hlenrun : (Builtin.len_ #[62] 3 #[.map (some r)]).run Tryd.prog w = .ok (.int .i64 (n : Int)) w := by
    rw [Gv.run_len_map kl9 um62 hm 3, hnl]
  clear hmb hnl
  cases mb
  · have HR := Lib.hid (show reserveR Q item client = 1 by unfold reserveR; rw [HMB.out]; rfl)
    have HQ := Lib.hid (show reserveQ Q item client = Q by unfold reserveQ; rw [HR.out]; rfl)
    go_enter Tryd.func20, Tryd.ntmps20
    go_wp2_with fail
    refine (may_is false item client _ HMB.out hn).mono ?_
    rintro _ w1 ⟨rfl, rfl⟩
    go_wp2_with fail
    go_ret
    rw [HR.out, HQ.out]
    exact RegDid.no HH.out
  · cases is
    · by_cases h64 : 64 ≤ n
      · have HR := Lib.hid (show reserveR Q item client = 7 by unfold reserveR; rw [HMB.out, HIS.out, if_pos rfl, if_neg (by decide), if_pos (by rw [HNL.out]; exact h64)])
        have HQ := Lib.hid (show reserveQ Q item client = Q by unfold reserveQ; rw [HR.out]; rfl)
        have h642 : (64 : Int) ≤ (n : Int) := by omega
        go_enter Tryd.func20, Tryd.ntmps20
        go_wp2_with fail
        refine (may_is true item client _ HMB.out hn).mono ?_
        rintro _ w1 ⟨rfl, rfl⟩
        go_wp2_with fail
        go_ret
        rw [HR.out, HQ.out]
        exact RegDid.no HH.out
      · have HR := Lib.hid (show reserveR Q item client = 0 by unfold reserveR; rw [HMB.out, HIS.out, if_pos rfl, if_neg (by decide), if_neg (by rw [HNL.out]; exact h64)])
        have HQ := Lib.hid (show reserveQ Q item client = mset Q item client by unfold reserveQ; rw [HR.out]; rfl)
        have h642 : ¬ (64 : Int) ≤ (n : Int) := by omega
        go_enter Tryd.func20, Tryd.ntmps20
        go_wp2_with fail
        refine (may_is true item client _ HMB.out hn).mono ?_
        rintro _ w1 ⟨rfl, rfl⟩
        go_wp2_with fail
        go_ret
        rw [HR.out, HQ.out]
        have hg : GX r w1 (mput Tryd.prog 62 w1 r item client) := mput_grown kl9 um62 HH.out.2 item client
        exact ⟨rfl, ⟨GX.cell hg HH.out.1 hp, mapAt_mput kl9 um62 HH.out.2 item client⟩, hg⟩
    · have HR := Lib.hid (show reserveR Q item client = 5 by unfold reserveR; rw [HMB.out, HIS.out, if_pos rfl, if_pos rfl])
      have HQ := Lib.hid (show reserveQ Q item client = Q by unfold reserveQ; rw [HR.out]; rfl)
      go_enter Tryd.func20, Tryd.ntmps20
      go_wp2_with fail
      refine (may_is true item client _ HMB.out hn).mono ?_
      rintro _ w1 ⟨rfl, rfl⟩
      go_wp2_with fail
      go_ret
      rw [HR.out, HQ.out]
      exact RegDid.no HH.out
theorem run_delete_reg {w : World} {r : Nat} {Q : MReg} (h : mapAt ByteArray Int w r = some Q) (item : ByteArray) (ty : TypeId) :
    ∃ w', (Builtin.delete_ #[62, 9] ty #[.map (some r), .string item]).run Tryd.prog w = .ok (.tuple #[]) w' ∧ mapAt ByteArray Int w' r = some (mdel Q item) ∧ GX r w w' := run_delete_ex kl9 um62 h item ty
set_option maxRecDepth 100000 in
set_option maxHeartbeats 1000000 in
theorem release_any (p : Addr) (r : Nat) (Q : MReg) (item : ByteArray) (client : Int) (w : World) (h : RegIs w p r Q) (hp : p.block ≠ r) (hn : item.size ≤ maxLen) :
    Calls Tryd.prog 21 #[.pointer (some p), .string item, .int .i64 client] w (RegDid w p r (releaseR Q item client) (releaseQ Q item client)) := by
  have HH := Lib.hid h
  obtain ⟨hc, hm⟩ := h
  obtain ⟨mb, hmb⟩ : ∃ b, mayB item client = b := ⟨_, rfl⟩
  have HMB := Lib.hid hmb
  obtain ⟨w9, hrun, hm9, hg9⟩ := run_delete_reg hm item 0
  have HM9 := Lib.hid hm9; have HG9 := Lib.hid hg9
  clear hmb hm9 hg9
  cases mb
  · have HR := Lib.hid (show releaseR Q item client = 1 by unfold releaseR; rw [HMB.out]; rfl)
    have HQ := Lib.hid (show releaseQ Q item client = Q by unfold releaseQ; rw [HR.out]; rfl)
    clear hrun
    go_enter Tryd.func21, Tryd.ntmps21
    go_wp2_with fail
    refine (may_is false item client _ HMB.out hn).mono ?_
    rintro _ w1 ⟨rfl, rfl⟩
    go_wp2_with fail
    go_ret
    rw [HR.out, HQ.out]
    exact RegDid.no HH.out
  · cases hq : mget Q item with
    | none =>
      have HR := Lib.hid (show releaseR Q item client = 6 by unfold releaseR; rw [HMB.out, if_pos rfl, hq])
      have HQ := Lib.hid (show releaseQ Q item client = Q by unfold releaseQ; rw [HR.out]; rfl)
      have hz0 : (mget Q item).getD 0 = 0 := by rw [hq]; rfl
      have his : (mget Q item).isSome = false := by rw [hq]; rfl
      clear hrun hq
      go_enter Tryd.func21, Tryd.ntmps21
      go_wp2_with fail
      refine (may_is true item client _ HMB.out hn).mono ?_
      rintro _ w1 ⟨rfl, rfl⟩
      go_wp2_with fail
      go_ret
      rw [HR.out, HQ.out]
      exact RegDid.no HH.out
    | some who =>
      have hz0 : (mget Q item).getD 0 = who := by rw [hq]; rfl
      have his : (mget Q item).isSome = true := by rw [hq]; rfl
      by_cases hw : who = client
      · have HR := Lib.hid (show releaseR Q item client = 0 by unfold releaseR; rw [HMB.out, if_pos rfl, hq]; simp only; rw [if_pos hw])
        have HQ := Lib.hid (show releaseQ Q item client = mdel Q item by unfold releaseQ; rw [HR.out]; rfl)
        clear hq
        subst hw
        go_enter Tryd.func21, Tryd.ntmps21
        go_wp2_with fail
        refine (may_is true item who _ HMB.out hn).mono ?_
        rintro _ w1 ⟨rfl, rfl⟩
        go_wp2_with fail
        go_ret
        rw [HR.out, HQ.out]
        exact ⟨rfl, ⟨GX.cell HG9.out HH.out.1 hp, HM9.out⟩, HG9.out⟩
      · have HR := Lib.hid (show releaseR Q item client = 12 by unfold releaseR; rw [HMB.out, if_pos rfl, hq]; simp only; rw [if_neg hw])
        have HQ := Lib.hid (show releaseQ Q item client = Q by unfold releaseQ; rw [HR.out]; rfl)
        have hwb : (who == client) = false := by rw [beq_eq_false_iff_ne]; exact hw
        clear hrun hq
        go_enter Tryd.func21, Tryd.ntmps21
        go_wp2_with fail
        refine (may_is true item client _ HMB.out hn).mono ?_
        rintro _ w1 ⟨rfl, rfl⟩
        go_wp2_with fail
        go_ret
        rw [HR.out, HQ.out]
        exact RegDid.no HH.out
end Go.Proofs.YtgeimnknmljplaaDoor
