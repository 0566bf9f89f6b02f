/- Auctions: what a house reads as; names. Conditions: those named in each theorem. -/
import Derived.Test.YteockodnfempfaaTyB
import Derived.Test.YteockodnfempfaaRw
import Derived.Test.YteockodnfempfaaRg3
namespace Go.Proofs.Yteockodnfempfaa
open Go Go.RowKit Go.Gv

/-! ### The model -/
structure MSale where
  name : ByteArray
  vickrey : Bool
  reserve : Int
  close : Int
  bids : List GAuctionBid
  settled : Bool
  result : GAuctionResult
abbrev MHouse := List (ByteArray × MSale)
def MSale.at (x : MSale) (h : Hdr) : GAuctionSale := ⟨x.name, x.vickrey, x.reserve, x.close, h, x.settled, x.result⟩
def SaleIs (w : World) (s : GAuctionSale) (x : MSale) : Prop := ∃ h : Hdr, s = x.at h ∧ Sl GAuctionBid w w.heap.size h.a h.len x.bids ∧ h.len ≤ h.cap ∧ h.cap ≤ maxLen
def HRel (w : World) : List (ByteArray × GAuctionSale) → MHouse → Prop
  | [], [] => True
  | p :: m, q :: H => (p.1 = q.1 ∧ SaleIs w p.2 q.2) ∧ HRel w m H
  | _, _ => False
theorem SaleIs.step {w w' : World} {s : GAuctionSale} {x : MSale} (h : SaleIs w s x) (hb : Bel w w') : SaleIs w' s x := by
  obtain ⟨hd, h1, h2, h3⟩ := h
  exact ⟨hd, h1, h2.stepB hb, h3⟩
section
variable {w w' : World}
theorem HRel.step (hb : Bel w w') : ∀ {m : List (ByteArray × GAuctionSale)} {H : MHouse}, HRel w m H → HRel w' m H
  | [], [], h => h
  | _ :: _, _ :: _, h => ⟨⟨h.1.1, h.1.2.step hb⟩, HRel.step hb h.2⟩
  | [], _ :: _, h => h.elim
  | _ :: _, [], h => h.elim
theorem HRel.keys : ∀ {m : List (ByteArray × GAuctionSale)} {H : MHouse}, HRel w m H → m.map (·.1) = H.map (·.1)
  | [], [], _ => rfl
  | _ :: _, _ :: _, h => by simp only [List.map_cons]; rw [h.1.1, HRel.keys h.2]
  | [], _ :: _, h => h.elim
  | _ :: _, [], h => h.elim
theorem HRel.len {m : List (ByteArray × GAuctionSale)} {H : MHouse} (h : HRel w m H) : m.length = H.length := by
  have := congrArg List.length h.keys; simpa using this
theorem HRel.get (k : ByteArray) : ∀ {m : List (ByteArray × GAuctionSale)} {H : MHouse}, HRel w m H → (mget m k = none ∧ mget H k = none) ∨ ∃ s x, mget m k = some s ∧ mget H k = some x ∧ SaleIs w s x
  | [], [], _ => .inl ⟨rfl, rfl⟩
  | p :: m, q :: H, h => by
    simp only [mget_cons, h.1.1]
    by_cases e : q.1 = k
    · simp only [e, if_true]
      exact .inr ⟨p.2, q.2, rfl, rfl, h.1.2⟩
    · simp only [e, if_false]
      exact HRel.get k h.2
  | [], _ :: _, h => h.elim
  | _ :: _, [], h => h.elim
theorem HRel.app {m2 : List (ByteArray × GAuctionSale)} {H2 : MHouse} (h2 : HRel w m2 H2) : ∀ {m : List (ByteArray × GAuctionSale)} {H : MHouse}, HRel w m H → HRel w (m ++ m2) (H ++ H2)
  | [], [], _ => h2
  | _ :: _, _ :: _, h => ⟨h.1, HRel.app h2 h.2⟩
  | [], _ :: _, h => h.elim
  | _ :: _, [], h => h.elim
theorem HRel.upd {k : ByteArray} {s : GAuctionSale} {x : MSale} (hs : SaleIs w s x) : ∀ {m : List (ByteArray × GAuctionSale)} {H : MHouse}, HRel w m H → HRel w (m.map fun p => if p.1 = k then (k, s) else p) (H.map fun p => if p.1 = k then (k, x) else p)
  | [], [], _ => trivial
  | p :: m, q :: H, h => by
    simp only [List.map_cons]
    refine ⟨?_, HRel.upd hs h.2⟩
    by_cases e : q.1 = k
    · rw [if_pos (h.1.1.trans e), if_pos e]; exact ⟨rfl, hs⟩
    · rw [if_neg (fun e' => e (h.1.1.symm.trans e')), if_neg e]; exact h.1
  | [], _ :: _, h => h.elim
  | _ :: _, [], h => h.elim
theorem HRel.set {k : ByteArray} {s : GAuctionSale} {x : MSale} (hs : SaleIs w s x) {m : List (ByteArray × GAuctionSale)} {H : MHouse} (h : HRel w m H) : HRel w (mset m k s) (mset H k x) := by
  unfold mset
  rw [h.keys]
  split
  · exact h.upd hs
  · exact HRel.app (m2 := [(k, s)]) (H2 := [(k, x)]) ⟨⟨rfl, hs⟩, trivial⟩ h
end
/-- Block r is a map of auctions. -/
def HouseAt (w : World) (r : Nat) (H : MHouse) : Prop := ∃ m, mapAt ByteArray GAuctionSale w r = some m ∧ HRel w m H
/-- At p lies a house over the map in block r. -/
def HouseIs (w : World) (p : Addr) (r : Nat) (H : MHouse) : Prop := w.cell? p = some (.map (some r)) ∧ HouseAt w r H
section
variable {w w' : World} {p : Addr} {r : Nat} {H : MHouse}
theorem HouseAt.lt (h : HouseAt w r H) : r < w.heap.size := by obtain ⟨m, hm, _⟩ := h; exact mapAt_lt hm
theorem HouseAt.step (h : HouseAt w r H) (hb : Bel w w') : HouseAt w' r H := by
  obtain ⟨m, hm, hr⟩ := h
  exact ⟨m, (mapAt_below hb (mapAt_lt hm)).trans hm, hr.step hb⟩
theorem HouseIs.step (h : HouseIs w p r H) (hb : Bel w w') : HouseIs w' p r H := ⟨GB.cell hb h.1, h.2.step hb⟩
theorem _root_.Go.Gv.Sl.mput_ {α : Type} [Enc α] {K V : Type} [DecidableEq K] [KEnc K] [VEnc V] {P : Program} {tK tM tV : TypeId} (L : KeyLaws P tK K) (hM : P.underlying tM = some (.map tK tV)) {m : List (K × V)} (h : mapAt K V w r = some m) (k : K) (v : V) {A : Option Addr} {n : Nat} {xs : List α} (hs : Sl α w w.heap.size A n xs) :
    Sl α (mput P tM w r k v) (mput P tM w r k v).heap.size A n xs := by
  refine ⟨hs.1, fun hn => ?_⟩
  obtain ⟨ad, e, hb, hc⟩ := hs.2 hn
  exact ⟨ad, e, by rw [mput_size L hM h]; exact hb, fun j x hj => by rw [mput_get L hM h]; exact hc j x hj⟩
theorem SaleIs.put {m : List (ByteArray × GAuctionSale)} (hm : mapAt ByteArray GAuctionSale w r = some m) (k : ByteArray) (v : GAuctionSale) {s : GAuctionSale} {x : MSale} (h : SaleIs w s x) : SaleIs (mput Try.prog 141 w r k v) s x := by
  obtain ⟨hd, h1, h2, h3⟩ := h
  exact ⟨hd, h1, h2.mput_ kl9 um141 hm k v, h3⟩
theorem HRel.mono (hw : ∀ s x, SaleIs w s x → SaleIs w' s x) : ∀ {m : List (ByteArray × GAuctionSale)} {H : MHouse}, HRel w m H → HRel w' m H
  | [], [], h => h
  | _ :: _, _ :: _, h => ⟨⟨h.1.1, hw _ _ h.1.2⟩, HRel.mono hw h.2⟩
  | [], _ :: _, h => h.elim
  | _ :: _, [], h => h.elim
theorem HRel.put {m0 : List (ByteArray × GAuctionSale)} (hm : mapAt ByteArray GAuctionSale w r = some m0) (k : ByteArray) (v : GAuctionSale) {m : List (ByteArray × GAuctionSale)} {H : MHouse} (h : HRel w m H) : HRel (mput Try.prog 141 w r k v) m H :=
  HRel.mono (fun _ _ hs => SaleIs.put hm k v hs) h
theorem HouseAt.put {m : List (ByteArray × GAuctionSale)} (hm : mapAt ByteArray GAuctionSale w r = some m) (hr : HRel w m H) {k : ByteArray} {v : GAuctionSale} {x : MSale} (hs : SaleIs w v x) : HouseAt (mput Try.prog 141 w r k v) r (mset H k x) :=
  ⟨mset m k v, mapAt_mput kl9 um141 hm k v, (hr.put hm k v).set (hs.put hm k v)⟩
theorem GX.of_bel (h : Bel w w') (r : Nat) : GX r w w' := ⟨Below.os h, Below.tape h, Below.output h, Below.size h, fun k hk _ => Below.block h k hk⟩
theorem GX.cell {v : Value} (h : GX r w w') (hc : w.cell? p = some v) (hp : p.block ≠ r) : w'.cell? p = some v :=
  (World.cell?_of_block (w := w) (h.block _ (World.block_lt_of_cell? w _ hc) (fun e => hp (by injection e)))).trans hc
end
/-! ### Names -/
def nameB (s : ByteArray) : Bool := (s.data.toList.all fun c => decide (97 ≤ c.toNat) && decide (c.toNat ≤ 122)) && (decide (1 ≤ s.size) && decide (s.size ≤ 16))
end Go.Proofs.Yteockodnfempfaa
