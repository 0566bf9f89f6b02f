/- The library's stable sort of bids, of any length. Conditions: those named in each theorem. -/
import Derived.Shelf.SlSortCmp.NoneTotal
import Derived.Test.YtgeimnknmljplaaDoorP4
import Derived.Test.YtgeimnknmljplaaDoorP3
/- The library's sorts at this program: which function is which; printed by the kit's lay-plain. -/
namespace Go.Proofs.YtgeimnknmljplaaDoor
open Go Go.Proofs
open Go.Shelf
def Tryd.sortSale_ren : Go.Shelf.Ren := ⟨fun | 6 => 24 | 15 => 40 | 14 => 39 | 28 => 58 | 29 => 59 | 20 => 50 | 21 => 51 | 22 => 52 | 23 => 53 | 24 => 54 | 25 => 55 | 26 => 56 | 27 => 57 | 46 => 66 | 47 => 67 | 48 => 68 | 49 => 69 | 50 => 70 | 57 => 81 | n => n, fun | 22 => 65 | 24 => 70 | 25 => 75 | 3 => 3 | 39 => 91 | 0 => 0 | 53 => 106 | 55 => 26 | 4 => 4 | 46 => 100 | 45 => 99 | 50 => 53 | 5 => 5 | 9 => 9 | 66 => 112 | 70 => 116 | 76 => 128 | 77 => 129 | n => n, fun | n => n⟩
theorem Tryd.sortSale : Go.Proofs.SlLaysF0.n6 Tryd.prog Tryd.sortSale_ren := {
  mixed := by kernel_rfl
  f6 := ⟨Tryd.f24.name, by decide, Tryd.func24.trans (congrArg some (by kernel_rfl))⟩
  f14 := ⟨Tryd.f39.name, by decide, Tryd.func39.trans (congrArg some (by kernel_rfl))⟩
  f15 := Tryd.func40.trans (congrArg some (by kernel_rfl))
  f20 := ⟨Tryd.f50.name, by decide, Tryd.func50.trans (congrArg some (by kernel_rfl))⟩
  f21 := ⟨Tryd.f51.name, by decide, Tryd.func51.trans (congrArg some (by kernel_rfl))⟩
  f22 := ⟨Tryd.f52.name, by decide, Tryd.func52.trans (congrArg some (by kernel_rfl))⟩
  f23 := ⟨Tryd.f53.name, by decide, Tryd.func53.trans (congrArg some (by kernel_rfl))⟩
  f24 := ⟨Tryd.f54.name, by decide, Tryd.func54.trans (congrArg some (by kernel_rfl))⟩
  f25 := ⟨Tryd.f55.name, by decide, Tryd.func55.trans (congrArg some (by kernel_rfl))⟩
  f26 := ⟨Tryd.f56.name, by decide, Tryd.func56.trans (congrArg some (by kernel_rfl))⟩
  f27 := ⟨Tryd.f57.name, by decide, Tryd.func57.trans (congrArg some (by kernel_rfl))⟩
  f28 := Tryd.func58.trans (congrArg some (by kernel_rfl))
  f29 := Tryd.func59.trans (congrArg some (by kernel_rfl))
  f46 := ⟨Tryd.f66.name, by decide, Tryd.func66.trans (congrArg some (by kernel_rfl))⟩
  f47 := Tryd.func67.trans (congrArg some (by kernel_rfl))
  f48 := Tryd.func68.trans (congrArg some (by kernel_rfl))
  f49 := ⟨Tryd.f69.name, by decide, Tryd.func69.trans (congrArg some (by kernel_rfl))⟩
  f50 := ⟨Tryd.f70.name, by decide, Tryd.func70.trans (congrArg some (by kernel_rfl))⟩
  f57 := ⟨Tryd.f81.name, by decide, Tryd.func81.trans (congrArg some (by kernel_rfl))⟩
  t0 := Tryd.underlying0
  a0 := Tryd.isAgg0
  z0 := Tryd.sizeOf0
  v0 := Tryd.zeroValue0
  t3 := Tryd.underlying3
  a3 := Tryd.isAgg3
  z3 := Tryd.sizeOf3
  v3 := Tryd.zeroValue3
  t4 := Tryd.underlying4
  a4 := Tryd.isAgg4
  z4 := Tryd.sizeOf4
  v4 := Tryd.zeroValue4
  t5 := Tryd.underlying5
  a5 := Tryd.isAgg5
  z5 := Tryd.sizeOf5
  v5 := Tryd.zeroValue5
  t9 := Tryd.underlying9
  a9 := Tryd.isAgg9
  z9 := Tryd.sizeOf9
  v9 := Tryd.zeroValue9
  t22 := Tryd.underlying65
  a22 := Tryd.isAgg65
  z22 := Tryd.sizeOf65
  v22 := Tryd.zeroValue65
  t25 := Tryd.underlying75
  a25 := Tryd.isAgg75
  z25 := Tryd.sizeOf75
  v25 := Tryd.zeroValue75
  t39 := Tryd.underlying91
  a39 := Tryd.isAgg91
  z39 := Tryd.sizeOf91
  v39 := Tryd.zeroValue91
  t45 := Tryd.underlying99
  a45 := Tryd.isAgg99
  z45 := Tryd.sizeOf99
  v45 := Tryd.zeroValue99
  t46 := Tryd.underlying100
  a46 := Tryd.isAgg100
  z46 := Tryd.sizeOf100
  v46 := Tryd.zeroValue100
  t50 := Tryd.underlying53
  a50 := Tryd.isAgg53
  z50 := Tryd.sizeOf53
  v50 := Tryd.zeroValue53
  t53 := Tryd.underlying106
  a53 := Tryd.isAgg106
  z53 := Tryd.sizeOf106
  v53 := Tryd.zeroValue106
  t55 := Tryd.underlying26
  a55 := Tryd.isAgg26
  z55 := Tryd.sizeOf26
  v55 := Tryd.zeroValue26
  t66 := Tryd.underlying112
  a66 := Tryd.isAgg112
  z66 := Tryd.sizeOf112
  v66 := Tryd.zeroValue112
  t70 := Tryd.underlying116
  a70 := Tryd.isAgg116
  z70 := Tryd.sizeOf116
  v70 := Tryd.zeroValue116
  t76 := Tryd.underlying128
  a76 := Tryd.isAgg128
  z76 := Tryd.sizeOf128
  v76 := Tryd.zeroValue128
  t77 := Tryd.underlying129
  a77 := Tryd.isAgg129
  z77 := Tryd.sizeOf129
  v77 := Tryd.zeroValue129 }
def Tryd.insBid_ren : Go.Shelf.Ren := ⟨fun | 20 => 71 | n => n, fun | 24 => 82 | 22 => 66 | 3 => 3 | 25 => 95 | 4 => 4 | 0 => 0 | n => n, fun | n => n⟩
theorem Tryd.insBid : Go.Proofs.SlLaysF0.n20 Tryd.prog Tryd.insBid_ren := {
  mixed := by kernel_rfl
  f20 := ⟨Tryd.f71.name, by decide, Tryd.func71.trans (congrArg some (by kernel_rfl))⟩
  t0 := Tryd.underlying0
  a0 := Tryd.isAgg0
  z0 := Tryd.sizeOf0
  v0 := Tryd.zeroValue0
  t3 := Tryd.underlying3
  a3 := Tryd.isAgg3
  z3 := Tryd.sizeOf3
  v3 := Tryd.zeroValue3
  t4 := Tryd.underlying4
  a4 := Tryd.isAgg4
  z4 := Tryd.sizeOf4
  v4 := Tryd.zeroValue4
  t22 := Tryd.underlying66
  a22 := Tryd.isAgg66
  z22 := Tryd.sizeOf66
  v22 := Tryd.zeroValue66
  t25 := Tryd.underlying95
  a25 := Tryd.isAgg95
  z25 := Tryd.sizeOf95
  v25 := Tryd.zeroValue95 }
end Go.Proofs.YtgeimnknmljplaaDoor
/- Where own lists lie. Conditions: those named in each theorem. -/
namespace Go.Gv
open Go
theorem addN (blk off n : Nat) : (⟨blk, off, none⟩ : Addr).add n = ⟨blk, off + n, none⟩ := by
  unfold Addr.add
  by_cases h : n = 0
  · subst h; rfl
  · rw [if_neg h]
end Go.Gv
namespace Go.Proofs.YtgeimnknmljplaaDoor
open Go Go.RowKit Go.Gv
theorem OwnA.place {α : Type} [Enc α] {w : World} {base c : Nat} {e : TypeId} {A : Option Addr} {xs : List α} (h : OwnA w base e A c xs) (hn : 0 < xs.length) :
    ∃ g, A = some ⟨g, 0, none⟩ ∧ base ≤ g ∧ g < w.heap.size ∧ blkFree w g = true := by
  rcases h with ⟨_, ⟨h1, h2⟩ | ⟨g, cap, cur, h1, h2, h3, _⟩⟩
  · omega
  · injection h1 with h1 _ _
    refine ⟨g, h1, h2, ?_, by unfold blkFree; rw [h3]; rfl⟩
    exact (Array.getElem?_eq_some_iff.1 h3).1
end Go.Proofs.YtgeimnknmljplaaDoor
/- From our lists to the kit's rows and back. Conditions: those named in each theorem. -/
namespace Go.Gv
open Go Go.Sort Go.Proofs
section
variable {α : Type} [Enc α] [Inhabited α]
theorem Sl.holdsK {w : World} {B blk off n : Nat} {xs : List α} (h : Sl α w B (some ⟨blk, off, none⟩) n xs) (hf : blkFree w blk = true) : HoldsK (Enc.enc : α → List Value) (Enc.n α) w blk off xs.toArray := by
  intro t ht
  rw [size_flatK] at ht
  have hn : 0 < Enc.n α := Enc.pos
  have hl : t / Enc.n α < xs.length := by
    rw [Nat.div_lt_iff_lt_mul hn]; simpa using ht
  have hm : t % Enc.n α < Enc.n α := Nat.mod_lt _ hn
  obtain ⟨ad, x, he, _, hx, hg⟩ := h.at_ (k := t / Enc.n α) (by rw [← h.1]; exact hl)
  obtain rfl : ad = ⟨blk, off, none⟩ := by injection he with he; exact he.symm
  refine ⟨?_, frozen_of_free hf⟩
  have hlen : (Enc.enc x).length = Enc.n α := Enc.len x
  have hA := get?_iff.1 hg (t % Enc.n α) _ (List.getElem?_eq_getElem (by rw [hlen]; exact hm))
  have e0 : xs.toArray[t / Enc.n α]! = x := by
    rw [getElem!_pos _ _ (by simpa using hl)]
    have := (List.getElem?_eq_some_iff.1 hx).2
    simpa using this
  show w.cell? _ = some (flatK _ _ _)[t]!
  rw [get_flatK _ _ _ _ ht, e0, getElem!_pos _ _ (by rw [hlen]; exact hm), ← hA]
  congr 1
  rw [addN, addN]
  have := Nat.div_add_mod t (Enc.n α)
  rw [Nat.mul_comm] at this
  rw [Nat.add_assoc, this]
theorem HoldsK.sl {w : World} {B blk off : Nat} {d : Array α} (h : HoldsK (Enc.enc : α → List Value) (Enc.n α) w blk off d) (hb : blk < B) : Sl α w B (some ⟨blk, off, none⟩) d.size d.toList := by
  refine ⟨by simp, fun _ => ⟨_, rfl, hb, fun k x hx => get?_iff.2 fun j v hv => ?_⟩⟩
  have hk : k < d.size := by have := (List.getElem?_eq_some_iff.1 hx).1; simpa using this
  have hj : j < Enc.n α := by have := (List.getElem?_eq_some_iff.1 hv).1; rwa [Enc.len] at this
  have hc := (h.cell hk hj).1
  have e0 : d[k]! = x := by
    rw [getElem!_pos d k hk]
    have := (List.getElem?_eq_some_iff.1 hx).2
    simpa using this
  rw [e0, getElem!_pos (Enc.enc x) j (by rw [Enc.len]; exact hj), (List.getElem?_eq_some_iff.1 hv).2] at hc
  rw [← hc, addN, addN]
omit [Enc α] in
theorem sortWorldK_GX (enc : α → List Value) (k : Nat) (w : World) (blk off m : Nat) (d : Array α) (os : Array Obj) : GX blk w (sortWorldK enc k w blk off m d os) := by
  unfold sortWorldK putRowK putRow mapBlock grow
  refine ⟨rfl, rfl, rfl, ?_, ?_⟩
  · simp
  · intro i hi hr
    have hne : ¬ blk = i := fun h => hr (by rw [h])
    show (Array.modify w.heap blk _ ++ os)[i]? = w.heap[i]?
    rw [Array.getElem?_append, if_pos (by simpa using hi), Array.getElem?_modify, if_neg hne]
omit [Enc α] in
theorem sortWorldK_free (enc : α → List Value) (k : Nat) (w : World) (blk off m : Nat) (d : Array α) (os : Array Obj) : w.heap.size ≤ (sortWorldK enc k w blk off m d os).heap.size := by
  unfold sortWorldK putRowK putRow mapBlock grow
  simp
/-- What a sort leaves: the list in its new order; nothing else that was there has changed. -/
theorem sorted_is {w : World} {blk off m : Nat} {d d0 : Array α} {os : Array Obj} (h : HoldsK (Enc.enc : α → List Value) (Enc.n α) w blk off d0) (hb : blk < w.heap.size) (hs : d.size = d0.size) :
    Sl α (sortWorldK (Enc.enc : α → List Value) (Enc.n α) w blk off m d os) w.heap.size (some ⟨blk, off, none⟩) d.size d.toList ∧ GX blk w (sortWorldK (Enc.enc : α → List Value) (Enc.n α) w blk off m d os) :=
  ⟨HoldsK.sl (holdsK_sortWorldK_c _ _ _ _ _ _ _ _ _ h hb hs) hb, sortWorldK_GX _ _ _ _ _ _ _ _⟩
end
end Go.Gv
/- What SortStableFunc at bids computes. Conditions: those named in each theorem. -/
namespace Go.Proofs.YtgeimnknmljplaaDoor
open Go Go.RowKit Go.Gv Go.Sort Go.Proofs

def bidCmp (x y : GAuctionBid) : Int := cmpI y.amount x.amount
theorem ltOf_bidCmp : ltOf bidCmp = ltK GAuctionBid.amount := by
  funext x y
  unfold ltOf bidCmp cmpI ltK
  by_cases h1 : y.amount < x.amount
  · simp [h1]
  · by_cases h2 : x.amount < y.amount
    · simp [h1, h2]
    · simp [h1, h2]
set_option maxRecDepth 100000 in
theorem endFn_lays (blk off size : Nat) (w : World) : CmpLays Tryd.prog 44 #[] (Enc.enc : GAuctionBid → List Value) 2 bidCmp blk off size w := by
  intro m os dk _ x y
  generalize sortWorldK (Enc.enc : GAuctionBid → List Value) 2 w blk off m dk os = W
  rw [Array.append_empty]
  rw [← GAuctionBid.val_eq, ← GAuctionBid.val_eq]
  refine (endFn_any x y W).mono ?_
  rintro e w' ⟨rfl, rfl⟩
  refine ⟨rfl, 0, #[.cells x.enc.toArray 82] ++ #[.cells y.enc.toArray 82], ?_⟩
  rw [alloc_eq_grow, alloc_eq_grow, grow_grow]
  rfl
set_option maxRecDepth 100000 in
theorem insBid_any (blk off cap : Nat) (bs : List GAuctionBid) (w : World) (hx : Sl GAuctionBid w w.heap.size (some ⟨blk, off, none⟩) bs.length bs) (hb : blk < w.heap.size) (hf : blkFree w blk = true) (hn : bs.length ≤ 1000000) :
    Calls Tryd.prog 71 #[.slice (some ⟨blk, off, none⟩) bs.length cap, .int .i64 0, .int .i64 bs.length, .func (.func 44) #[] #[]] w fun e w' => e = .returned (.tuple #[]) ∧
      Sl GAuctionBid w' w.heap.size (some ⟨blk, off, none⟩) bs.length (sortL GAuctionBid.amount bs) ∧ GX blk w w' := by
  have hH := hx.holdsK hf
  have := AnyQ.insertionSortCmpFunc Tryd.insBid 2 Tryd.isAgg82 Tryd.sizeOf82 (Enc.enc : GAuctionBid → List Value) GAuctionBid.enc_len GAuctionBid.enc_one bidCmp 44 #[] blk off cap 0 bs.toArray.size bs.toArray w
    (enters_of Tryd.func44 (by kernel_rfl) rfl) (endFn_lays _ _ _ _) hH hb (Nat.zero_le _) (Nat.le_refl _) (by simp; omega)
  have e1 : bs.toArray.size = bs.length := by simp
  rw [e1] at this
  refine this.mono ?_
  rintro e w' ⟨rfl, n, os, rfl⟩
  have hs : (insertionSort (ltOf bidCmp) bs.toArray 0 bs.toArray.size).toList = sortL GAuctionBid.amount bs := by
    rw [ltOf_bidCmp, insertionSort_sortL]
  rw [e1] at hs
  have hz : (insertionSort (ltOf bidCmp) bs.toArray 0 bs.length).size = bs.toArray.size := by
    rw [← Array.length_toList, hs, length_sortL, e1]
  obtain ⟨h1, h2⟩ := sorted_is (m := n) (os := os) hH hb hz
  rw [hs, hz, e1] at h1
  exact ⟨rfl, h1, h2⟩
end Go.Proofs.YtgeimnknmljplaaDoor
/- The library's exchanges of runs of bids. Conditions: those named in each theorem. -/
namespace Go.Proofs.YtgeimnknmljplaaDoor
open Go Go.RowKit Go.Gv Go.Sort

theorem blkFree_putCells {w : World} {a : Addr} (cs : List Value) (n : Nat) : blkFree (World.putCells w a cs) n = blkFree w n := by
  unfold World.putCells
  have : ∀ (cs : List Value) (i : Nat) (w : World), blkFree (World.putFrom w a i cs) n = blkFree w n := by
    intro cs
    induction cs with
    | nil => intro i w; rfl
    | cons v vs ih => intro i w; exact (ih _ _).trans (blkFree_setCell _ _ _)
  exact this cs 0 w
theorem gxPut {w w' : World} {g o : Nat} (h : GX g w w') (cs : List Value) : GX g w (World.putCells w' ⟨g, o, none⟩ cs) := by
  refine GX.tr _ _ _ h ⟨?_, ?_, ?_, by simp, fun _ _ hr => heap_putCells _ _ (fun e => hr (by rw [e]))⟩
  · exact (Below_putCells (B := 0) (Below.refl 0 w') (Nat.zero_le _) cs).os
  · exact (Below_putCells (B := 0) (Below.refl 0 w') (Nat.zero_le _) cs).tape
  · exact (Below_putCells (B := 0) (Below.refl 0 w') (Nat.zero_le _) cs).output
/-- At block g lie the bids d. -/
structure RowB (w : World) (g : Nat) (d : Array GAuctionBid) : Prop where
  sl : Sl GAuctionBid w w.heap.size (some ⟨g, 0, none⟩) d.size d.toList
  free : blkFree w g = true
  lt : g < w.heap.size
theorem RowB.at_ {w : World} {g : Nat} {d : Array GAuctionBid} (h : RowB w g d) {k : Nat} (hk : k < d.size) : get? GAuctionBid w ⟨g, k * 2, none⟩ = some d[k]! := by
  obtain ⟨ad, x, he, _, hx, hg⟩ := h.sl.at_ hk
  injection he with he; subst he
  rw [addN, Nat.zero_add] at hg
  have hx2 : d[k]! = x := by
    rw [getElem!_pos d k hk]
    have := (List.getElem?_eq_some_iff.1 hx).2
    simpa using this
  rw [hx2]; exact hg
theorem RowB.of {w : World} {g : Nat} {d : Array GAuctionBid} (h : ∀ k < d.size, get? GAuctionBid w ⟨g, k * 2, none⟩ = some d[k]!) (hf : blkFree w g = true) (hl : g < w.heap.size) : RowB w g d := by
  refine ⟨⟨by simp, fun _ => ⟨_, rfl, hl, fun k x hx => ?_⟩⟩, hf, hl⟩
  have hk : k < d.size := by have := (List.getElem?_eq_some_iff.1 hx).1; simpa using this
  have hx2 : d[k]! = x := by
    rw [getElem!_pos d k hk]
    have := (List.getElem?_eq_some_iff.1 hx).2
    simpa using this
  rw [addN, Nat.zero_add, ← hx2]
  exact h k hk
theorem RowB.step {w w' : World} {g : Nat} {d : Array GAuctionBid} (h : RowB w g d) (hb : Bel w w') : RowB w' g d :=
  RowB.of (fun _ hk => GB.get hb (h.at_ hk)) ((blkFree_keep (Below.block hb g h.lt)).trans h.free) (Nat.lt_of_lt_of_le h.lt hb.size)
theorem get?_putB {α : Type} [Enc α] {w : World} {b o : Nat} {y : α} (x : α) (h : get? α w ⟨b, o, none⟩ = some y) : get? α (World.putCells w ⟨b, o, none⟩ (Enc.enc x)) ⟨b, o, none⟩ = some x := by
  refine get?_iff.2 fun j v hv => ?_
  have hj : j < (Enc.enc x).length := (List.getElem?_eq_some_iff.1 hv).1
  have hjy : j < (Enc.enc y).length := by rw [Enc.len] at hj ⊢; exact hj
  have hc := (get?_iff.1 h) j _ (List.getElem?_eq_getElem hjy)
  rw [addN] at hc ⊢
  unfold World.putCells
  rw [cell_putFrom rfl _ _ _ _ rfl (by rw [hc]; rfl), if_pos ⟨rfl, by simp, by simp; exact hj⟩]
  simpa using hv
theorem get?_put_other {w : World} {g o q : Nat} {x y : GAuctionBid} (h : get? GAuctionBid w ⟨g, q, none⟩ = some y) (hne : q + 2 ≤ o ∨ o + 2 ≤ q) : get? GAuctionBid (World.putCells w ⟨g, o, none⟩ (GAuctionBid.enc x)) ⟨g, q, none⟩ = some y := by
  refine get?_iff.2 fun j v hv => ?_
  have hj : j < 2 := by have := (List.getElem?_eq_some_iff.1 hv).1; rwa [Enc.len] at this
  have hc := (get?_iff.1 h) j _ hv
  rw [addN] at hc ⊢
  unfold World.putCells
  rw [cell_putFrom rfl _ _ _ _ rfl (by rw [hc]; rfl), if_neg (by rw [GAuctionBid.enc_len]; simp only; omega)]
  exact hc
theorem RowB.put {w : World} {g : Nat} {d : Array GAuctionBid} (h : RowB w g d) {k : Nat} (hk : k < d.size) (x : GAuctionBid) : RowB (World.putCells w ⟨g, k * 2, none⟩ (GAuctionBid.enc x)) g (d.setIfInBounds k x) := by
  refine RowB.of (fun j hj => ?_) ((blkFree_putCells _ _).trans h.free) (by simpa using h.lt)
  have hj' : j < d.size := by simpa using hj
  by_cases e : k = j
  · subst e
    rw [getElem!_pos _ k (by simpa using hk)]
    simp only [Array.getElem_setIfInBounds_self]
    exact get?_putB x (h.at_ hk)
  · rw [getElem!_pos _ j (by simpa using hj'), Array.getElem_setIfInBounds_ne (by simpa using hj') e, ← getElem!_pos d j hj']
    exact get?_put_other (h.at_ hj') (by omega)
theorem RowB.swp {w : World} {g : Nat} {d : Array GAuctionBid} (h : RowB w g d) {i j : Nat} (hi : i < d.size) (hj : j < d.size) : RowB (World.putCells (World.putCells w ⟨g, i * 2, none⟩ (GAuctionBid.enc d[j]!)) ⟨g, j * 2, none⟩ (GAuctionBid.enc d[i]!)) g (swp d i j) :=
  (h.put hi _).put (by simpa using hj) _
/-- What a step of the sort leaves. -/
def RowT (w : World) (g : Nat) (d : Array GAuctionBid) (Q : Array GAuctionBid → Prop) (e : Ending) (w' : World) : Prop :=
  e = .returned (.tuple #[]) ∧ ∃ d', d'.size = d.size ∧ RowB w' g d' ∧ GX g w w' ∧ Q d'

set_option maxRecDepth 100000 in
set_option maxHeartbeats 1000000 in
theorem swapRange_any (g c a b n : Nat) (d : Array GAuctionBid) (f : Value) (w : World) (hR : RowB w g d) (hd : d.size ≤ 1000000) (hab : a + n ≤ b) (hb : b + n ≤ d.size) :
    Calls Tryd.prog 92 #[.slice (some ⟨g, 0, none⟩) d.size c, .int .i64 a, .int .i64 b, .int .i64 n, f] w (RowT w g d fun d' => Swd d d' a b n) := by
  obtain ⟨z, hz⟩ : ∃ z, d.size = z := ⟨_, rfl⟩
  rw [hz] at hd hb ⊢
  have HZ := Lib.hid hz
  have HR := Lib.hid hR
  clear hR hz
  go_enter Tryd.func92, Tryd.ntmps92
  go_wp2_with fail
  go_loopw [10] (fun i wr => ∃ (k : Nat) (dk : Array GAuctionBid), k ≤ n ∧ i = .int .i64 k ∧ dk.size = z ∧ RowB wr g dk ∧ GX g w wr ∧ Swd d dk a b k) (fun i _ => n - (intOf i).toNat)
  case atStart => exact ⟨0, d, Nat.zero_le _, rfl, HZ.out, HR.out, GX.rf _, Swd.zero _ _ _⟩
  case round =>
    obtain ⟨k, dk, hk, rfl, hsz, hr, hg, hs⟩ := hrel
    have HSZ := Lib.hid hsz; have HRK := Lib.hid hr; have HG := Lib.hid hg; have HS := Lib.hid hs
    clear hsz hr hg hs
    by_cases hlt : k < n
    · have i0 : a + k < dk.size := by rw [HSZ.out]; omega
      have j0 : b + k < dk.size := by rw [HSZ.out]; omega
      have hx := HRK.out.at_ i0
      have hy := HRK.out.at_ j0
      have hy2 := (HRK.out.put i0 dk[b + k]!).at_ (k := b + k) (by simpa using j0)
      have HW := Lib.hid (HRK.out.swp i0 j0)
      have HGW := Lib.hid (gxPut (o := (b + k) * 2) (gxPut (o := (a + k) * 2) HG.out (GAuctionBid.enc dk[b + k]!)) (GAuctionBid.enc dk[a + k]!))
      have HSW := Lib.hid (HS.out.more (k := k) (by omega) (by rw [HZ.out]; omega))
      have hf1 := HRK.out.free
      have hf2 := (HRK.out.put i0 dk[b + k]!).free
      have HZ2 := Lib.hid (show (swp dk (a + k) (b + k)).size = z by rw [size_swp, HSZ.out])
      have hlt2 : (k : Int) < (n : Int) := by omega
      have e1 : IntKind.i64.wrap ((a : Int) + (k : Int)) = ((a + k : Nat) : Int) := by rw [IntWalk.i64_in _ (by omega)]; omega
      have e2 : IntKind.i64.wrap ((b : Int) + (k : Int)) = ((b + k : Nat) : Int) := by rw [IntWalk.i64_in _ (by omega)]; omega
      have p1 : (0 : Int) ≤ ((a + k : Nat) : Int) := by omega
      have p2 : ((a + k : Nat) : Int) < (z : Int) := by rw [HSZ.out] at i0; omega
      have p3 : (0 : Int) ≤ ((b + k : Nat) : Int) := by omega
      have p4 : ((b + k : Nat) : Int) < (z : Int) := by rw [HSZ.out] at j0; omega
      obtain ⟨x, hxe⟩ : ∃ x, dk[a + k]! = x := ⟨_, rfl⟩
      obtain ⟨y, hye⟩ : ∃ y, dk[b + k]! = y := ⟨_, rfl⟩
      have hy2' : get? GAuctionBid (World.putCells wr ⟨g, (a + k) * 2, none⟩ (GAuctionBid.enc y)) ⟨g, (b + k) * 2, none⟩ = some y := by
        rw [← hye]; exact get?_put_other hy (by omega)
      have hf2' : blkFree (World.putCells wr ⟨g, (a + k) * 2, none⟩ (GAuctionBid.enc y)) g = true := by rw [← hye]; exact hf2
      rw [hxe] at hx HW HGW
      rw [hye] at hy HW HGW
      clear hy2 hf2 i0 j0
      go_wp2_with fail
      go_region
      obtain ⟨w8, hw8⟩ : ∃ w8, World.putCells (World.putCells wr ⟨g, (a + k) * 2, none⟩ (GAuctionBid.enc y)) ⟨g, (b + k) * 2, none⟩ (GAuctionBid.enc x) = w8 := ⟨_, rfl⟩
      rw [hw8] at HW HGW ⊢
      clear hx hy hy2' hf1 hf2' hw8
      go_wp2_with fail
      exact ⟨⟨k + 1, swp dk (a + k) (b + k), by omega, by go_num, HZ2.out, HW.out.step ((Bel.refl _).drewN 1), GX.tr _ _ _ HGW.out (GX.of_bel ((Bel.refl _).drewN 1) g), HSW.out⟩, by simp [intOf]; omega⟩
    · obtain rfl : k = n := by omega
      have hlt3 : ¬ (k : Int) < (k : Int) := by omega
      go_wp2_with fail
      go_end0
      exact ⟨rfl, dk, by rw [HSZ.out, HZ.out], HRK.out, HG.out, HS.out⟩
end Go.Proofs.YtgeimnknmljplaaDoor
/- The library's turn of two runs of bids. Conditions: those named in each theorem. -/
namespace Go.Proofs.YtgeimnknmljplaaDoor
open Go Go.RowKit Go.Gv Go.Sort

set_option maxRecDepth 100000 in
set_option maxHeartbeats 1000000 in
theorem rotate_any (g c a m b : Nat) (d : Array GAuctionBid) (f : Value) (w : World) (hR : RowB w g d) (hd : d.size ≤ 1000000) (ham : a < m) (hmb : m < b) (hb : b ≤ d.size) :
    Calls Tryd.prog 82 #[.slice (some ⟨g, 0, none⟩) d.size c, .int .i64 a, .int .i64 m, .int .i64 b, f] w (RowT w g d fun d' => Rot d d' a m b) := by
  obtain ⟨z, hz⟩ : ∃ z, d.size = z := ⟨_, rfl⟩
  rw [hz] at hd hb ⊢
  have HZ := Lib.hid hz
  have HR := Lib.hid hR
  clear hR hz
  have e1 : IntKind.i64.wrap ((m : Int) - (a : Int)) = ((m - a : Nat) : Int) := by rw [IntWalk.i64_in _ (by omega)]; omega
  have e2 : IntKind.i64.wrap ((b : Int) - (m : Int)) = ((b - m : Nat) : Int) := by rw [IntWalk.i64_in _ (by omega)]; omega
  go_enter Tryd.func82, Tryd.ntmps82
  go_wp2_with fail
  clear e1 e2
  go_loopw [10, 11] (fun vi vj wr => ∃ (i j : Nat) (dk : Array GAuctionBid), 0 < i ∧ 0 < j ∧ i ≤ m ∧ m + j ≤ z ∧ vi = .int .i64 i ∧ vj = .int .i64 j ∧ dk.size = z ∧ RowB wr g dk ∧ GX g w wr ∧ Hid (∀ d', Rot dk d' (m - i) m (m + j) → Rot d d' a m b)) (fun vi vj _ => (intOf vi).toNat + (intOf vj).toNat)
  case atStart =>
    exact ⟨m - a, b - m, d, by omega, by omega, by omega, by omega, rfl, rfl, HZ.out, HR.out, GX.rf _, (fun d' h => by rwa [show m - (m - a) = a by omega, show m + (b - m) = b by omega] at h : ∀ d', Rot d d' (m - (m - a)) m (m + (b - m)) → Rot d d' a m b)⟩
  case round =>
    obtain ⟨i, j, dk, hi, hj, him, hjz, rfl, rfl, hsz, hr, hg, hs⟩ := hrel
    have HSZ := Lib.hid hsz; have HRK := Lib.hid hr; have HG := Lib.hid hg
    clear hsz hr hg
    have e1 : IntKind.i64.wrap ((m : Int) - (i : Int)) = ((m - i : Nat) : Int) := by rw [IntWalk.i64_in _ (by omega)]; omega
    by_cases hij : i = j
    · subst hij
      go_wp2_with fail
      have hc := swapRange_any g c (m - i) m i dk f wr HRK.out (by rw [HSZ.out]; omega) (by omega) (by rw [HSZ.out]; omega)
      rw [HSZ.out] at hc
      refine hc.mono ?_
      rintro _ w1 ⟨rfl, d1, hs1, hr1, hg1, hsw⟩
      have H1 := Lib.hid hs1; have H2 := Lib.hid hr1; have H3 := Lib.hid hg1; have H4 := Lib.hid hsw
      clear hs1 hr1 hg1 hsw hc
      go_wp2_with fail
      go_end0
      exact ⟨rfl, d1, by rw [H1.out, HSZ.out, HZ.out], H2.out, GX.tr _ _ _ HG.out H3.out, hs.out _ (H4.out.same him)⟩
    · by_cases hlt : j < i
      · have n1 : ¬ (i : Int) = (j : Int) := by omega
        have n2 : (j : Int) < (i : Int) := by omega
        go_wp2_with fail
        have hc := swapRange_any g c (m - i) m j dk f wr HRK.out (by rw [HSZ.out]; omega) (by omega) (by rw [HSZ.out]; omega)
        rw [HSZ.out] at hc
        refine hc.mono ?_
        rintro _ w1 ⟨rfl, d1, hs1, hr1, hg1, hsw⟩
        have H1 := Lib.hid hs1; have H2 := Lib.hid hr1; have H3 := Lib.hid hg1; have H4 := Lib.hid hsw
        clear hs1 hr1 hg1 hsw hc
        have e3 : IntKind.i64.wrap ((i : Int) - (j : Int)) = ((i - j : Nat) : Int) := by rw [IntWalk.i64_in _ (by omega)]; omega
        go_wp2_with fail
        have hq : ∀ d', Rot d1 d' (m - (i - j)) m (m + j) → Rot d d' a m b := fun d' h => hs.out _ (H4.out.big him hlt h)
        have HQ := Lib.hid hq
        clear hq
        refine ⟨⟨i - j, j, d1, by omega, hj, by omega, hjz, rfl, rfl, by rw [H1.out, HSZ.out], H2.out, GX.tr _ _ _ HG.out H3.out, HQ⟩, ?_⟩
        show ((i - j : Nat) : Int).toNat + ((j : Nat) : Int).toNat < ((i : Nat) : Int).toNat + ((j : Nat) : Int).toNat
        omega
      · have n1 : ¬ (i : Int) = (j : Int) := by omega
        have n2 : ¬ (j : Int) < (i : Int) := by omega
        go_wp2_with fail
        rw [show (m : Int) + (j : Int) - (i : Int) = ((m + j - i : Nat) : Int) by omega]
        have hc := swapRange_any g c (m - i) (m + j - i) i dk f wr HRK.out (by rw [HSZ.out]; omega) (by omega) (by rw [HSZ.out]; omega)
        rw [HSZ.out] at hc
        refine hc.mono ?_
        rintro _ w1 ⟨rfl, d1, hs1, hr1, hg1, hsw⟩
        have H1 := Lib.hid hs1; have H2 := Lib.hid hr1; have H3 := Lib.hid hg1; have H4 := Lib.hid hsw
        clear hs1 hr1 hg1 hsw hc
        have e3 : IntKind.i64.wrap ((j : Int) - (i : Int)) = ((j - i : Nat) : Int) := by rw [IntWalk.i64_in _ (by omega)]; omega
        go_wp2_with fail
        have hq : ∀ d', Rot d1 d' (m - i) m (m + (j - i)) → Rot d d' a m b := fun d' h => hs.out _ (H4.out.small him (by omega) h)
        have HQ := Lib.hid hq
        clear hq
        refine ⟨⟨i, j - i, d1, hi, by omega, him, by omega, rfl, rfl, by rw [H1.out, HSZ.out], H2.out, GX.tr _ _ _ HG.out H3.out, HQ⟩, ?_⟩
        show ((i : Nat) : Int).toNat + ((j - i : Nat) : Int).toNat < ((i : Nat) : Int).toNat + ((j : Nat) : Int).toNat
        omega
end Go.Proofs.YtgeimnknmljplaaDoor
/- The library's merge of two runs of bids in place. Conditions: those named in each theorem. -/
namespace Go.Proofs.YtgeimnknmljplaaDoor
open Go Go.RowKit Go.Gv Go.Sort

theorem cmpLess (x y : GAuctionBid) : decide (cmpI y.amount x.amount < 0) = decide (y.amount < x.amount) := by
  unfold cmpI
  by_cases h1 : y.amount < x.amount
  · simp [h1]
  · by_cases h2 : x.amount < y.amount
    · simp [h1, h2]
    · simp [h1, h2]
set_option maxRecDepth 100000 in
set_option maxHeartbeats 4000000 in
theorem symMerge_first (g c a b : Nat) (d : Array GAuctionBid) (w : World) (hR : RowB w g d) (hd : d.size ≤ 1000000) (hmb : a + 1 < b) (hb : b ≤ d.size) (hf2 : FallsI GAuctionBid.amount d (a + 1) b) :
    Calls Tryd.prog 72 #[.slice (some ⟨g, 0, none⟩) d.size c, .int .i64 a, .int .i64 ((a + 1 : Nat) : Int), .int .i64 b, .func (.func 44) #[] #[]] w (RowT w g d fun d' => Merged GAuctionBid.amount d d' a b) := by
  obtain ⟨z, hz⟩ : ∃ z, d.size = z := ⟨_, rfl⟩
  rw [hz] at hd hb ⊢
  have HZ := Lib.hid hz
  have HR := Lib.hid hR
  have HF := Lib.hid hf2
  clear hR hz hf2
  obtain ⟨m, hm⟩ : ∃ m, a + 1 = m := ⟨_, rfl⟩
  rw [hm] at hmb HF ⊢
  have e1 : IntKind.i64.wrap ((m : Int) - (a : Int)) = 1 := by rw [IntWalk.i64_in _ (by omega)]; omega
  go_enter Tryd.func72, Tryd.ntmps72
  go_wp2_with fail
  clear e1
  go_loopw [10, 11] (fun vi vj wr => ∃ (i j : Nat), m ≤ i ∧ i ≤ j ∧ j ≤ b ∧ vi = .int .i64 i ∧ vj = .int .i64 j ∧ Bel w wr ∧ Hid (∀ q, m ≤ q → q < i → d[a]!.amount < d[q]!.amount) ∧ Hid (∀ q, j ≤ q → q < b → d[q]!.amount ≤ d[a]!.amount)) (fun vi vj _ => (intOf vj).toNat - (intOf vi).toNat)
  case atStart => exact ⟨m, b, Nat.le_refl _, by omega, Nat.le_refl _, rfl, rfl, Bel.refl _, (fun q h1 h2 => by omega : ∀ q, m ≤ q → q < m → d[a]!.amount < d[q]!.amount), (fun q h1 h2 => by omega : ∀ q, b ≤ q → q < b → d[q]!.amount ≤ d[a]!.amount)⟩
  case round =>
    obtain ⟨i, j, hi, hij, hj, rfl, rfl, hb1, hlo, hhi⟩ := hrel
    have HB := Lib.hid hb1
    clear hb1
    by_cases hlt : i < j
    · obtain ⟨h, hh⟩ : ∃ h, (i + j) / 2 = h := ⟨_, rfl⟩
      have hih : i ≤ h := by omega
      have hhj : h < j := by omega
      go_wp2_with fail
      rw [show ((i : Int) + (j : Int)) / 2 = (h : Int) by omega]
      have hrk := HR.out.step HB.out
      have hzs := HZ.out
      have q1 := hrk.at_ (k := h) (by omega)
      have q2 := hrk.at_ (k := a) (by omega)
      obtain ⟨x, hx⟩ : ∃ x, d[a]! = x := ⟨_, rfl⟩
      obtain ⟨y, hy⟩ : ∃ y, d[h]! = y := ⟨_, rfl⟩
      rw [hy] at q1; rw [hx] at q2
      have HX := Lib.hid hx; have HY := Lib.hid hy
      obtain ⟨r, hr⟩ : ∃ r, decide (x.amount < y.amount) = r := ⟨_, rfl⟩
      have HRR := Lib.hid hr
      have hr2 : decide (cmpI x.amount y.amount < 0) = r := by rw [cmpLess, hr]
      have p1 : (0 : Int) ≤ (h : Int) := by omega
      have p2 : (h : Int) < (z : Int) := by omega
      have p3 : (0 : Int) ≤ (a : Int) := by omega
      have p4 : (a : Int) < (z : Int) := by omega
      clear hrk hzs hx hy hr hh
      refine wp_region_G GB [] GB.rf (by kernel_rfl) ?_
      refine wpG_looks 0 11 [0,1,2,3,4,5,6,7,8,9,10] rfl GB.rf GB.tr (by kernel_rfl) (fun _ _ _ _ hd h => And.intro (hd ▸ And.left h) (And.right h)) rfl (by kernel_rfl) ?_
      intro ι W hne CW
      have g1 := fun z => (CW.out z).get q1
      have g2 := fun z => (CW.out z).get q2
      repeat (refine wpLooksG_step (fun K hK => ?_); go_simp; refine hK _ ?_; clear hK K)
      refine wpLooksG_step (fun K hK => ?_); go_simp
      refine ⟨_, fun z => (endFn_any y x (W z)).mono (fun _ _ h => ⟨h.1, by rw [h.2]; exact ((Bel.refl _).alloc _).alloc _⟩), hK _ ?_⟩
      clear hK K
      repeat (refine wpLooksG_step (fun K hK => ?_); go_simp; refine hK _ ?_; clear hK K)
      refine wpLooksG_nil ?_
      clear g1 g2 CW hne W ι
      refine wpG_end (by kernel_rfl) (fun wn hwn => ?_) _
      have HBN := Lib.hid (HB.out.trans hwn.undrew); clear hwn q1 q2
      have hlo2 : r = true → Hid (∀ q, m ≤ q → q < h + 1 → d[a]!.amount < d[q]!.amount) := fun e q h1 h2 => by
        have hxy : d[a]!.amount < d[h]!.amount := by rw [HX.out, HY.out]; exact of_decide_eq_true (HRR.out.trans e)
        by_cases h3 : q = h
        · rw [h3]; exact hxy
        · have := HF.out q h h1 (by omega) (by omega); omega
      have hhi2 : r = false → Hid (∀ q, h ≤ q → q < b → d[q]!.amount ≤ d[a]!.amount) := fun e q h1 h2 => by
        have hxy : ¬ d[a]!.amount < d[h]!.amount := by rw [HX.out, HY.out]; exact of_decide_eq_false (HRR.out.trans e)
        by_cases h3 : q = h
        · rw [h3]; omega
        · have := HF.out h q (by omega) (by omega) h2; omega
      have HLO := Lib.hid hlo2; have HHI := Lib.hid hhi2
      clear hlo2 hhi2
      cases r
      · go_wp2_with fail
        refine ⟨⟨i, h, hi, hih, by omega, rfl, rfl, HBN.out, hlo, HHI.out rfl⟩, ?_⟩
        show (h : Int).toNat - (i : Int).toNat < (j : Int).toNat - (i : Int).toNat
        omega
      · go_wp2_with fail
        refine ⟨⟨h + 1, j, by omega, by omega, hj, by go_num, rfl, HBN.out, HLO.out rfl, hhi⟩, ?_⟩
        simp [intOf]; omega
    · obtain rfl : i = j := by omega
      have e1 : IntKind.i64.wrap ((i : Int) - 1) = ((i - 1 : Nat) : Int) := by rw [IntWalk.i64_in _ (by omega)]; omega
      go_wp2_with fail
      go_loopw [13] (fun vk wr => ∃ (k : Nat) (dk : Array GAuctionBid), a ≤ k ∧ k + 1 ≤ i ∧ vk = .int .i64 k ∧ dk.size = z ∧ RowB wr g dk ∧ GX g w wr ∧ Rot d dk a (a + 1) (k + 1)) (fun vk _ => i - (intOf vk).toNat)
      case atStart => exact ⟨a, d, Nat.le_refl _, by omega, rfl, HZ.out, HR.out.step HB.out, GX.of_bel HB.out g, Rot.rf d (by omega) (Nat.le_refl _) (.inr rfl)⟩
      case round =>
        obtain ⟨k, dk, hk1, hk2, rfl, hsz, hr, hg, hs⟩ := hrel
        have HSZ := Lib.hid hsz; have HRK := Lib.hid hr; have HG := Lib.hid hg; have HS := Lib.hid hs
        clear hsz hr hg hs
        by_cases hlt3 : k + 1 < i
        · have i0 : k < dk.size := by rw [HSZ.out]; omega
          have j0 : k + 1 < dk.size := by rw [HSZ.out]; omega
          have hx := HRK.out.at_ i0
          have hy := HRK.out.at_ j0
          have HW := Lib.hid (HRK.out.swp i0 j0)
          have HGW := Lib.hid (gxPut (o := (k + 1) * 2) (gxPut (o := k * 2) HG.out (GAuctionBid.enc dk[k + 1]!)) (GAuctionBid.enc dk[k]!))
          have HSW := Lib.hid (HS.out.right hk1 (by rw [HZ.out]; omega))
          have HZ2 := Lib.hid (show (swp dk k (k + 1)).size = z by rw [size_swp, HSZ.out])
          have e1 : IntKind.i64.wrap ((k : Int) + 1) = ((k + 1 : Nat) : Int) := by rw [IntWalk.i64_in _ (by omega)]; omega
          have n1 : (k : Int) < ((i - 1 : Nat) : Int) := by omega
          have p1 : (0 : Int) ≤ (k : Int) := by omega
          have p2 : (k : Int) < (z : Int) := by rw [HSZ.out] at i0; omega
          have p3 : (0 : Int) ≤ ((k + 1 : Nat) : Int) := by omega
          have p4 : ((k + 1 : Nat) : Int) < (z : Int) := by rw [HSZ.out] at j0; omega
          have hf1 := HRK.out.free
          obtain ⟨x, hxe⟩ : ∃ x, dk[k]! = x := ⟨_, rfl⟩
          obtain ⟨y, hye⟩ : ∃ y, dk[k + 1]! = y := ⟨_, rfl⟩
          have hy2' : get? GAuctionBid (World.putCells wr ⟨g, k * 2, none⟩ (GAuctionBid.enc y)) ⟨g, (k + 1) * 2, none⟩ = some y := by
            rw [← hye]; exact get?_put_other hy (by omega)
          have hf2' : blkFree (World.putCells wr ⟨g, k * 2, none⟩ (GAuctionBid.enc y)) g = true := (blkFree_putCells _ _).trans hf1
          rw [hxe] at hx HW HGW
          rw [hye] at hy HW HGW
          have e2 : IntKind.i64.wrap ((i : Int) - 1) = ((i - 1 : Nat) : Int) := by rw [IntWalk.i64_in _ (by omega)]; omega
          clear i0 j0
          go_wp2_with fail
          go_region
          obtain ⟨w8, hw8⟩ : ∃ w8, World.putCells (World.putCells wr ⟨g, k * 2, none⟩ (GAuctionBid.enc y)) ⟨g, (k + 1) * 2, none⟩ (GAuctionBid.enc x) = w8 := ⟨_, rfl⟩
          rw [hw8] at HW HGW ⊢
          clear hx hy hy2' hf1 hf2' hw8
          go_wp2_with fail
          refine ⟨⟨k + 1, swp dk k (k + 1), by omega, by omega, by go_num, HZ2.out, HW.out.step ((Bel.refl _).drewN 1), GX.tr _ _ _ HGW.out (GX.of_bel ((Bel.refl _).drewN 1) g), HSW.out⟩, ?_⟩
          simp [intOf]; omega
        · have n1 : ¬ (k : Int) < ((i - 1 : Nat) : Int) := by omega
          have e2 : IntKind.i64.wrap ((i : Int) - 1) = ((i - 1 : Nat) : Int) := by rw [IntWalk.i64_in _ (by omega)]; omega
          go_wp2_with fail
          go_end0
          refine ⟨rfl, dk, by rw [HSZ.out, HZ.out], HRK.out, HG.out, ?_⟩
          have h1 := HS.out
          rw [show k + 1 = i by omega] at h1
          have h2 := HF.out
          rw [← hm] at h2
          exact merged_first h1 (by omega) hj h2 (fun q h3 h4 => hlo q (by omega) h4) hhi
set_option maxRecDepth 100000 in
set_option maxHeartbeats 4000000 in
theorem symMerge_last (g c a m : Nat) (d : Array GAuctionBid) (w : World) (hR : RowB w g d) (hd : d.size ≤ 1000000) (ham : a + 1 < m) (hb : m + 1 ≤ d.size) (hf1 : FallsI GAuctionBid.amount d a m) :
    Calls Tryd.prog 72 #[.slice (some ⟨g, 0, none⟩) d.size c, .int .i64 a, .int .i64 m, .int .i64 ((m + 1 : Nat) : Int), .func (.func 44) #[] #[]] w (RowT w g d fun d' => Merged GAuctionBid.amount d d' a (m + 1)) := by
  obtain ⟨z, hz⟩ : ∃ z, d.size = z := ⟨_, rfl⟩
  rw [hz] at hd hb ⊢
  have HZ := Lib.hid hz
  have HR := Lib.hid hR
  have HF := Lib.hid hf1
  clear hR hz hf1
  obtain ⟨b, hbm⟩ : ∃ b, m + 1 = b := ⟨_, rfl⟩
  rw [hbm] at hb ⊢
  have e1 : IntKind.i64.wrap ((m : Int) - (a : Int)) = ((m - a : Nat) : Int) := by rw [IntWalk.i64_in _ (by omega)]; omega
  have e2 : IntKind.i64.wrap ((b : Int) - (m : Int)) = 1 := by rw [IntWalk.i64_in _ (by omega)]; omega
  have n1 : ¬ ((m - a : Nat) : Int) = 1 := by omega
  go_enter Tryd.func72, Tryd.ntmps72
  go_wp2_with fail
  clear e1 e2 n1
  go_loopw [14, 15] (fun vi vj wr => ∃ (i j : Nat), a ≤ i ∧ i ≤ j ∧ j ≤ m ∧ vi = .int .i64 i ∧ vj = .int .i64 j ∧ Bel w wr ∧ Hid (∀ q, a ≤ q → q < i → d[m]!.amount ≤ d[q]!.amount) ∧ Hid (∀ q, j ≤ q → q < m → d[q]!.amount < d[m]!.amount)) (fun vi vj _ => (intOf vj).toNat - (intOf vi).toNat)
  case atStart => exact ⟨a, m, Nat.le_refl _, by omega, Nat.le_refl _, rfl, rfl, Bel.refl _, (fun q h1 h2 => by omega : ∀ q, a ≤ q → q < a → d[m]!.amount ≤ d[q]!.amount), (fun q h1 h2 => by omega : ∀ q, m ≤ q → q < m → d[q]!.amount < d[m]!.amount)⟩
  case round =>
    obtain ⟨i, j, hi, hij, hj, rfl, rfl, hb1, hlo, hhi⟩ := hrel
    have HB := Lib.hid hb1
    clear hb1
    by_cases hlt : i < j
    · obtain ⟨h, hh⟩ : ∃ h, (i + j) / 2 = h := ⟨_, rfl⟩
      have hih : i ≤ h := by omega
      have hhj : h < j := by omega
      go_wp2_with fail
      rw [show ((i : Int) + (j : Int)) / 2 = (h : Int) by omega]
      have hrk := HR.out.step HB.out
      have hzs := HZ.out
      have q1 := hrk.at_ (k := m) (by omega)
      have q2 := hrk.at_ (k := h) (by omega)
      obtain ⟨x, hx⟩ : ∃ x, d[h]! = x := ⟨_, rfl⟩
      obtain ⟨y, hy⟩ : ∃ y, d[m]! = y := ⟨_, rfl⟩
      rw [hy] at q1; rw [hx] at q2
      have HX := Lib.hid hx; have HY := Lib.hid hy
      obtain ⟨r, hr⟩ : ∃ r, decide (x.amount < y.amount) = r := ⟨_, rfl⟩
      have HRR := Lib.hid hr
      have hr2 : decide (cmpI x.amount y.amount < 0) = r := by rw [cmpLess, hr]
      have p1 : (0 : Int) ≤ (h : Int) := by omega
      have p2 : (h : Int) < (z : Int) := by omega
      have p3 : (0 : Int) ≤ (m : Int) := by omega
      have p4 : (m : Int) < (z : Int) := by omega
      clear hrk hzs hx hy hr hh
      refine wp_region_G GB [] GB.rf (by kernel_rfl) ?_
      refine wpG_looks 0 12 [0,1,2,3,4,5,6,7,8,9,10,11] rfl GB.rf GB.tr (by kernel_rfl) (fun _ _ _ _ hd h => And.intro (hd ▸ And.left h) (And.right h)) rfl (by kernel_rfl) ?_
      intro ι W hne CW
      have g1 := fun z => (CW.out z).get q1
      have g2 := fun z => (CW.out z).get q2
      repeat (refine wpLooksG_step (fun K hK => ?_); go_simp; refine hK _ ?_; clear hK K)
      refine wpLooksG_step (fun K hK => ?_); go_simp
      refine ⟨_, fun z => (endFn_any y x (W z)).mono (fun _ _ h => ⟨h.1, by rw [h.2]; exact ((Bel.refl _).alloc _).alloc _⟩), hK _ ?_⟩
      clear hK K
      repeat (refine wpLooksG_step (fun K hK => ?_); go_simp; refine hK _ ?_; clear hK K)
      refine wpLooksG_nil ?_
      clear g1 g2 CW hne W ι
      refine wpG_end (by kernel_rfl) (fun wn hwn => ?_) _
      have HBN := Lib.hid (HB.out.trans hwn.undrew); clear hwn q1 q2
      have hlo2 : r = false → Hid (∀ q, a ≤ q → q < h + 1 → d[m]!.amount ≤ d[q]!.amount) := fun e q h1 h2 => by
        have hxy : ¬ d[h]!.amount < d[m]!.amount := by rw [HX.out, HY.out]; exact of_decide_eq_false (HRR.out.trans e)
        by_cases h3 : q = h
        · rw [h3]; omega
        · have := HF.out q h h1 (by omega) (by omega); omega
      have hhi2 : r = true → Hid (∀ q, h ≤ q → q < m → d[q]!.amount < d[m]!.amount) := fun e q h1 h2 => by
        have hxy : d[h]!.amount < d[m]!.amount := by rw [HX.out, HY.out]; exact of_decide_eq_true (HRR.out.trans e)
        by_cases h3 : q = h
        · rw [h3]; exact hxy
        · have := HF.out h q (by omega) (by omega) h2; omega
      have HLO := Lib.hid hlo2; have HHI := Lib.hid hhi2
      clear hlo2 hhi2
      cases r
      · go_wp2_with fail
        refine ⟨⟨h + 1, by omega, j, by omega, hj, by omega, rfl, HBN.out, HLO.out trivial, hhi⟩, ?_⟩
        simp [intOf]; omega
      · go_wp2_with fail
        refine ⟨⟨i, hi, h, hih, by omega, rfl, rfl, HBN.out, hlo, HHI.out trivial⟩, ?_⟩
        show (h : Int).toNat - (i : Int).toNat < (j : Int).toNat - (i : Int).toNat
        omega
    · obtain rfl : i = j := by omega
      go_wp2_with fail
      go_loopw [17] (fun vk wr => ∃ (k : Nat) (dk : Array GAuctionBid), i ≤ k ∧ k ≤ m ∧ vk = .int .i64 k ∧ dk.size = z ∧ RowB wr g dk ∧ GX g w wr ∧ Rot d dk k m (m + 1)) (fun vk _ => (intOf vk).toNat)
      case atStart => exact ⟨m, d, hj, Nat.le_refl _, rfl, HZ.out, HR.out.step HB.out, GX.of_bel HB.out g, Rot.rf d (Nat.le_refl _) (by omega) (.inl rfl)⟩
      case round =>
        obtain ⟨k, dk, hk1, hk2, rfl, hsz, hr, hg, hs⟩ := hrel
        have HSZ := Lib.hid hsz; have HRK := Lib.hid hr; have HG := Lib.hid hg; have HS := Lib.hid hs
        clear hsz hr hg hs
        by_cases hlt3 : i < k
        · obtain ⟨k, rfl⟩ : ∃ k', k = k' + 1 := ⟨k - 1, by omega⟩
          have i0 : k < dk.size := by rw [HSZ.out]; omega
          have j0 : k + 1 < dk.size := by rw [HSZ.out]; omega
          have hx := HRK.out.at_ i0
          have hy := HRK.out.at_ j0
          have HW := Lib.hid (HRK.out.swp j0 i0)
          have HGW := Lib.hid (gxPut (o := k * 2) (gxPut (o := (k + 1) * 2) HG.out (GAuctionBid.enc dk[k]!)) (GAuctionBid.enc dk[k + 1]!))
          have HSW := Lib.hid (HS.out.left (by omega) (by rw [HZ.out]; omega))
          have HZ2 := Lib.hid (show (swp dk (k + 1) k).size = z by rw [size_swp, HSZ.out])
          obtain ⟨k1, hk1e⟩ : ∃ k1, k + 1 = k1 := ⟨_, rfl⟩
          have hf1 := HRK.out.free
          obtain ⟨x, hxe⟩ : ∃ x, dk[k]! = x := ⟨_, rfl⟩
          obtain ⟨y, hye⟩ : ∃ y, dk[k + 1]! = y := ⟨_, rfl⟩
          have hx2' : get? GAuctionBid (World.putCells wr ⟨g, (k + 1) * 2, none⟩ (GAuctionBid.enc x)) ⟨g, k * 2, none⟩ = some x := by
            rw [← hxe]; exact get?_put_other hx (by omega)
          have hf2' : blkFree (World.putCells wr ⟨g, (k + 1) * 2, none⟩ (GAuctionBid.enc x)) g = true := (blkFree_putCells _ _).trans hf1
          rw [hxe] at hx HW HGW
          rw [hye] at hy HW HGW
          rw [hk1e] at hy HW HGW hx2' hf2' HSW HZ2 hk2 hlt3 j0 ⊢
          have e1 : IntKind.i64.wrap ((k1 : Int) - 1) = (k : Int) := by rw [IntWalk.i64_in _ (by omega)]; omega
          have n1 : (i : Int) < (k1 : Int) := by omega
          have p1 : (0 : Int) ≤ (k : Int) := by omega
          have p2 : (k : Int) < (z : Int) := by rw [HSZ.out] at i0; omega
          have p3 : (0 : Int) ≤ (k1 : Int) := by omega
          have p4 : (k1 : Int) < (z : Int) := by rw [HSZ.out] at j0; omega
          have hi2 : i ≤ k := by omega
          have hkm : k ≤ m := by omega
          have hkk : k < k1 := by omega
          clear i0 j0 hk1e hk1
          go_wp2_with fail
          go_region
          obtain ⟨w8, hw8⟩ : ∃ w8, World.putCells (World.putCells wr ⟨g, k1 * 2, none⟩ (GAuctionBid.enc x)) ⟨g, k * 2, none⟩ (GAuctionBid.enc y) = w8 := ⟨_, rfl⟩
          rw [hw8] at HW HGW ⊢
          clear hx hy hx2' hf1 hf2' hw8
          go_wp2_with fail
          refine ⟨⟨k, swp dk k1 k, hi2, hkm, by first | rfl | go_num, HZ2.out, HW.out.step ((Bel.refl _).drewN 1), GX.tr _ _ _ HGW.out (GX.of_bel ((Bel.refl _).drewN 1) g), HSW.out⟩, ?_⟩
          simp [intOf]; omega
        · obtain rfl : i = k := by omega
          have n1 : ¬ (i : Int) < (i : Int) := by omega
          go_wp2_with fail
          go_end0
          refine ⟨rfl, dk, by rw [HSZ.out, HZ.out], HRK.out, HG.out, ?_⟩
          have h1 := HS.out
          rw [← hbm]
          exact merged_last h1 hi hj HF.out hlo hhi
end Go.Proofs.YtgeimnknmljplaaDoor
/- The library's merge of two runs of bids in place, whole. Conditions: those named in each theorem. -/
namespace Go.Proofs.YtgeimnknmljplaaDoor
open Go Go.RowKit Go.Gv Go.Sort

/-- Where the search stands: what lies below s, and from r on. -/
def Between (d : Array GAuctionBid) (n lo hi s r : Nat) : Prop := (s = lo ∨ d[n - s]!.amount ≤ d[s - 1]!.amount) ∧ (r = hi ∨ d[r]!.amount < d[n - 1 - r]!.amount)
structure Halves (a m b mid lo hi : Nat) : Prop where
  h1 : mid = (a + b) / 2
  h2 : a + 1 < m
  h3 : m + 1 < b
  which : (mid < m ∧ lo = mid + m - b ∧ hi = mid) ∨ (m ≤ mid ∧ lo = a ∧ hi = m)
theorem FallsI.same {d d' : Array GAuctionBid} {a b : Nat} (h : FallsI GAuctionBid.amount d a b) (e : ∀ x, a ≤ x → x < b → d'[x]! = d[x]!) : FallsI GAuctionBid.amount d' a b := fun i j h1 h2 h3 => by
  rw [e i h1 (by omega), e j (by omega) h3]; exact h i j h1 h2 h3
theorem Between.cut {d : Array GAuctionBid} {a m b mid lo hi s : Nat} (h : Halves a m b mid lo hi) (hs1 : lo ≤ s) (hs2 : s ≤ hi) (B : Between d (mid + m) lo hi s s) (f1 : FallsI GAuctionBid.amount d a m) (f2 : FallsI GAuctionBid.amount d m b) : Cut GAuctionBid.amount d a s m (mid + m - s) b := by
  have := h.h1; have := h.h2; have := h.h3; have hw := h.which
  refine ⟨by omega, by omega, by omega, by omega, f1, f2, fun i j h1 h2 h3 h4 => ?_, fun i j h1 h2 h3 h4 => ?_⟩
  · rcases B.1 with e | e
    · omega
    · have e1 : d[s - 1]!.amount ≤ d[i]!.amount := by
        by_cases q : i = s - 1
        · rw [q]; exact Int.le_refl _
        · exact f1 i (s - 1) h1 (by omega) (by omega)
      have e2 : d[j]!.amount ≤ d[mid + m - s]!.amount := by
        by_cases q : j = mid + m - s
        · rw [q]; exact Int.le_refl _
        · exact f2 (mid + m - s) j (by omega) (by omega) h4
      omega
  · rcases B.2 with e | e
    · omega
    · have e1 : d[i]!.amount ≤ d[s]!.amount := by
        by_cases q : i = s
        · rw [q]; exact Int.le_refl _
        · exact f1 s i (by omega) (by omega) h2
      have e2 : d[mid + m - 1 - s]!.amount ≤ d[j]!.amount := by
        by_cases q : j = mid + m - 1 - s
        · rw [q]; exact Int.le_refl _
        · exact f2 j (mid + m - 1 - s) h3 (by omega) (by omega)
      omega
set_option maxRecDepth 100000 in
set_option maxHeartbeats 8000000 in
theorem symMerge_step (N : Nat) (ih : ∀ (g c a m b : Nat) (d : Array GAuctionBid) (w : World), b - a ≤ N → RowB w g d → d.size ≤ 1000000 → a < m → m < b → b ≤ d.size → FallsI GAuctionBid.amount d a m → FallsI GAuctionBid.amount d m b →
      Calls Tryd.prog 72 #[.slice (some ⟨g, 0, none⟩) d.size c, .int .i64 a, .int .i64 m, .int .i64 b, .func (.func 44) #[] #[]] w (RowT w g d fun d' => Merged GAuctionBid.amount d d' a b))
    (g c a m b : Nat) (d : Array GAuctionBid) (w : World) (hN : b - a ≤ N + 1) (hR : RowB w g d) (hd : d.size ≤ 1000000) (ham : a + 1 < m) (hmb : m + 1 < b) (hb : b ≤ d.size) (hf1 : FallsI GAuctionBid.amount d a m) (hf2 : FallsI GAuctionBid.amount d m b) :
    Calls Tryd.prog 72 #[.slice (some ⟨g, 0, none⟩) d.size c, .int .i64 a, .int .i64 m, .int .i64 b, .func (.func 44) #[] #[]] w (RowT w g d fun d' => Merged GAuctionBid.amount d d' a b) := by
  have IH := Lib.hid ih
  obtain ⟨z, hz⟩ : ∃ z, d.size = z := ⟨_, rfl⟩
  rw [hz] at hd hb ⊢
  have HZ := Lib.hid hz
  have HR := Lib.hid hR
  have HF1 := Lib.hid hf1; have HF2 := Lib.hid hf2
  clear hR hz hf1 hf2 ih
  obtain ⟨mid, hmid⟩ : ∃ mid, (a + b) / 2 = mid := ⟨_, rfl⟩
  have hmz : ((a : Int) + (b : Int)) / 2 = (mid : Int) := by omega
  obtain ⟨lo, hi, hwhich⟩ : ∃ lo hi : Nat, (mid < m ∧ lo = mid + m - b ∧ hi = mid) ∨ (m ≤ mid ∧ lo = a ∧ hi = m) := by
    by_cases h : mid < m
    · exact ⟨_, _, .inl ⟨h, rfl, rfl⟩⟩
    · exact ⟨_, _, .inr ⟨by omega, rfl, rfl⟩⟩
  have hH : Halves a m b mid lo hi := ⟨hmid.symm, ham, hmb, hwhich⟩
  have HH := Lib.hid hH; have HWH := Lib.hid hwhich; have HMID := Lib.hid hmid
  have e1 : IntKind.i64.wrap ((m : Int) - (a : Int)) = ((m - a : Nat) : Int) := by rw [IntWalk.i64_in _ (by omega)]; omega
  have e2 : IntKind.i64.wrap ((b : Int) - (m : Int)) = ((b - m : Nat) : Int) := by rw [IntWalk.i64_in _ (by omega)]; omega
  have n1 : ¬ ((m - a : Nat) : Int) = 1 := by omega
  have n2 : ¬ ((b - m : Nat) : Int) = 1 := by omega
  have hlohi : lo ≤ hi := by omega
  have hhim : hi ≤ m := by omega
  have halo : a ≤ lo := by omega
  clear hH hwhich hmid
  go_enter Tryd.func72, Tryd.ntmps72
  go_upto_if 140 with fail
  go_cut [20, 21] (fun v0 v1 wx => v0 = .int .i64 lo ∧ v1 = .int .i64 hi ∧ wx = w)
  case first => as_aux_lemma =>
    rcases HWH.out with ⟨h1, h2, h3⟩ | ⟨h1, h2, h3⟩
    · have n3 : (mid : Int) < (m : Int) := by omega
      go_wp2
      go_meet
      exact ⟨by congr 1; omega, by rw [h3], rfl⟩
    · have n3 : ¬ (mid : Int) < (m : Int) := by omega
      go_wp2
      go_meet
      exact ⟨by rw [h2], by rw [h3], rfl⟩
  case rest =>
    obtain ⟨rfl, rfl, rfl⟩ := hcut
    go_wp2_with fail
    go_loopw [20, 21] (fun vi vj wr => ∃ (s r : Nat), lo ≤ s ∧ s ≤ r ∧ r ≤ hi ∧ vi = .int .i64 s ∧ vj = .int .i64 r ∧ Bel wc wr ∧ Hid (Between d (mid + m) lo hi s r)) (fun vi vj _ => (intOf vj).toNat - (intOf vi).toNat)
    case atStart => exact ⟨lo, hi, Nat.le_refl _, hlohi, Nat.le_refl _, rfl, rfl, Bel.refl _, (⟨.inl rfl, .inl rfl⟩ : Between d (mid + m) lo hi lo hi)⟩
    case round =>
      obtain ⟨s, r, hs, hsr, hr, rfl, rfl, hb1, hbt⟩ := hrel
      have HB := Lib.hid hb1
      have HBT := Lib.hid hbt.out
      clear hb1 hbt
      by_cases hlt : s < r
      · as_aux_lemma =>
          obtain ⟨h, hh⟩ : ∃ h, (s + r) / 2 = h := ⟨_, rfl⟩
          have hih : s ≤ h := by omega
          have hhj : h < r := by omega
          go_wp2_with fail
          rw [show ((s : Int) + (r : Int)) / 2 = (h : Int) by omega]
          have hrk := HR.out.step HB.out
          have hzs := HZ.out
          obtain ⟨p, hp⟩ : ∃ p, mid + m - 1 - h = p := ⟨_, rfl⟩
          have hph : h < m ∧ m ≤ p ∧ p < b ∧ a ≤ h := by
            have := HWH.out; have := HMID.out
            omega
          have q1 := hrk.at_ (k := p) (by omega)
          have q2 := hrk.at_ (k := h) (by omega)
          obtain ⟨x, hx⟩ : ∃ x, d[h]! = x := ⟨_, rfl⟩
          obtain ⟨y, hy⟩ : ∃ y, d[p]! = y := ⟨_, rfl⟩
          rw [hy] at q1; rw [hx] at q2
          have HX := Lib.hid hx; have HY := Lib.hid hy; have HP := Lib.hid hp; have HPH := Lib.hid hph
          obtain ⟨rr, hr2⟩ : ∃ r, decide (x.amount < y.amount) = r := ⟨_, rfl⟩
          have HRR := Lib.hid hr2
          have hr3 : decide (cmpI x.amount y.amount < 0) = rr := by rw [cmpLess, hr2]
          have p1 : (0 : Int) ≤ (h : Int) := by omega
          have p2 : (h : Int) < (z : Int) := by omega
          have p3 : (0 : Int) ≤ (p : Int) := by omega
          have p4 : (p : Int) < (z : Int) := by omega
          have ep : IntKind.i64.wrap ((mid : Int) + (m : Int) - 1 - (h : Int)) = (p : Int) := by
            have := HMID.out
            rw [IntWalk.i64_in _ (by omega)]; omega
          clear hrk hzs hx hy hr2 hh hp hph
          refine wp_region_G GB [] GB.rf (by kernel_rfl) ?_
          refine wpG_looks 0 14 [0,1,2,3,4,5,6,7,8,9,10,11,12,13] rfl GB.rf GB.tr (by kernel_rfl) (fun _ _ _ _ hd h => And.intro (hd ▸ And.left h) (And.right h)) rfl (by kernel_rfl) ?_
          intro ι W hne CW
          have g1 := fun z => (CW.out z).get q1
          have g2 := fun z => (CW.out z).get q2
          repeat (refine wpLooksG_step (fun K hK => ?_); go_simp; refine hK _ ?_; clear hK K)
          refine wpLooksG_step (fun K hK => ?_); go_simp
          refine ⟨_, fun z => (endFn_any y x (W z)).mono (fun _ _ h => ⟨h.1, by rw [h.2]; exact ((Bel.refl _).alloc _).alloc _⟩), hK _ ?_⟩
          clear hK K
          repeat (refine wpLooksG_step (fun K hK => ?_); go_simp; refine hK _ ?_; clear hK K)
          refine wpLooksG_nil ?_
          clear g1 g2 CW hne W ι
          refine wpG_end (by kernel_rfl) (fun wn hwn => ?_) _
          have HBN := Lib.hid (HB.out.trans hwn.undrew); clear hwn q1 q2 ep hr3
          have hlo2 : rr = false → Hid (Between d (mid + m) lo hi (h + 1) r) := fun e => by
            refine ⟨.inr ?_, HBT.out.2⟩
            have hxy : ¬ d[h]!.amount < d[p]!.amount := by rw [HX.out, HY.out]; exact of_decide_eq_false (HRR.out.trans e)
            have := HP.out
            rw [Nat.add_sub_cancel, show mid + m - (h + 1) = p by omega]; omega
          have hhi2 : rr = true → Hid (Between d (mid + m) lo hi s h) := fun e => by
            refine ⟨HBT.out.1, .inr ?_⟩
            have hxy : d[h]!.amount < d[p]!.amount := by rw [HX.out, HY.out]; exact of_decide_eq_true (HRR.out.trans e)
            rw [HP.out]; exact hxy
          have HLO := Lib.hid hlo2; have HHI := Lib.hid hhi2
          clear hlo2 hhi2
          cases rr
          · go_wp2_with fail
            refine ⟨⟨h + 1, r, by omega, by omega, hr, by go_num, rfl, HBN.out, HLO.out rfl⟩, ?_⟩
            simp [intOf]; omega
          · go_wp2_with fail
            refine ⟨⟨s, h, hs, hih, by omega, rfl, rfl, HBN.out, HHI.out rfl⟩, ?_⟩
            show (h : Int).toNat - (s : Int).toNat < (r : Int).toNat - (s : Int).toNat
            omega
      · obtain rfl : s = r := by omega
        obtain ⟨e, he⟩ : ∃ e, mid + m - s = e := ⟨_, rfl⟩
        have hcut0 := HBT.out.cut HH.out hs hr HF1.out HF2.out
        rw [he] at hcut0
        have HCUT := Lib.hid hcut0
        have h1 := hcut0.u1; have h2 := hcut0.u2; have h3 := hcut0.u3; have h4 := hcut0.u4
        have hes : s + (e - m) = mid := by have := HWH.out; have := HMID.out; omega
        have hse : mid + m < 9223372036854775807 := by have := HMID.out; omega
        have es : IntKind.i64.wrap ((mid : Int) + (m : Int) - (s : Int)) = (e : Int) := by rw [IntWalk.i64_in _ (by omega)]; omega
        have HES := Lib.hid hes
        clear hcut0 hes hse he
        go_upto_region 39 with fail
        clear es
        go_cut [185] (fun v wx => v = .bool (decide (s < m ∧ m < e)) ∧ wx = wr)
        case first => as_aux_lemma =>
          by_cases c1 : s < m
          · by_cases c2 : m < e
            · go_wp2
              go_meet
              exact ⟨by simp [c1, c2], rfl⟩
            · go_wp2
              go_meet
              exact ⟨by simp [c2], rfl⟩
          · go_wp2
            go_meet
            exact ⟨by simp [c1], rfl⟩
        case rest =>
          obtain ⟨rfl, rfl⟩ := hcut
          obtain ⟨wr, rfl⟩ : ∃ w', w' = wc := ⟨_, rfl⟩
          have hz1 : e ≤ z := by omega
          go_upto_if 185 with fail
          go_cut [24] (fun v wx => v = .int .i64 e ∧ ∃ r : Array GAuctionBid, r.size = z ∧ RowB wx g r ∧ GX g wr wx ∧ Rot d r s m e)
          case first => as_aux_lemma =>
            have hrk := HR.out.step HB.out
            by_cases c1 : s < m ∧ m < e
            · have hc := rotate_any g c s m e d (.func (.func 44) #[] #[]) wr hrk (by rw [HZ.out]; omega) c1.1 c1.2 (by rw [HZ.out]; exact hz1)
              rw [HZ.out] at hc
              have HC := Lib.hid hc
              have hd1 : decide (s < m ∧ m < e) = true := decide_eq_true c1
              rw [hd1]
              clear hc hrk hd1
              go_wp2_with fail
              refine HC.out.mono ?_
              rintro _ w1 ⟨rfl, d1, hs1, hr1, hg1, hsw⟩
              have H1 := Lib.hid hs1; have H2 := Lib.hid hr1; have H3 := Lib.hid hg1; have H4 := Lib.hid hsw
              clear hs1 hr1 hg1 hsw
              go_wp2
              go_meet
              exact ⟨rfl, d1, by rw [H1.out, HZ.out], H2.out, H3.out, H4.out⟩
            · have hd1 : decide (s < m ∧ m < e) = false := decide_eq_false c1
              rw [hd1]
              have H2 := Lib.hid hrk
              clear hrk hd1
              go_wp2
              go_meet
              exact ⟨rfl, d, HZ.out, H2.out, GX.rf _, Rot.rf d h2 h3 (by omega)⟩
          case rest =>
            obtain ⟨rfl, r, hrz, hrr, hrg, hrot⟩ := hcut
            have HRZ := Lib.hid hrz; have HRW := Lib.hid hrr; have HRG := Lib.hid (GX.tr _ _ _ (GX.of_bel HB.out g) hrg); have HROT := Lib.hid hrot
            clear hrz hrr hrg hrot
            obtain ⟨w1, rfl⟩ : ∃ w', w' = wc := ⟨_, rfl⟩
            go_upto_region 41 with fail
            go_cut [199] (fun v wx => v = .bool (decide (a < s ∧ s < mid)) ∧ wx = w1)
            case first => as_aux_lemma =>
              by_cases c1 : a < s
              · by_cases c2 : s < mid
                · go_wp2
                  go_meet
                  exact ⟨by simp [c1, c2], rfl⟩
                · go_wp2
                  go_meet
                  exact ⟨by simp [c2], rfl⟩
              · go_wp2
                go_meet
                exact ⟨by simp [c1], rfl⟩
            case rest =>
              obtain ⟨rfl, rfl⟩ := hcut
              obtain ⟨w1, rfl⟩ : ∃ w', w' = wc := ⟨_, rfl⟩
              go_upto_if 199 with fail
              go_cut [24] (fun v wx => v = .int .i64 e ∧ ∃ d1 : Array GAuctionBid, d1.size = z ∧ RowB wx g d1 ∧ GX g w1 wx ∧ Merged GAuctionBid.amount r d1 a mid)
              case first => as_aux_lemma =>
                have hes := HMID.out
                have hes2 : s + (e - m) = mid := HES.out
                have hr1 := HCUT.out.r1 HROT.out
                have hr2 := HCUT.out.r2 HROT.out
                rw [hes2] at hr2
                by_cases c1 : a < s ∧ s < mid
                · have hc := IH.out g c a s mid r w1 (by omega) HRW.out (by rw [HRZ.out]; omega) c1.1 c1.2 (by rw [HRZ.out]; omega) hr1 hr2
                  rw [HRZ.out] at hc
                  have HC := Lib.hid hc
                  have hd1 : decide (a < s ∧ s < mid) = true := decide_eq_true c1
                  rw [hd1]
                  clear hc hd1 hr1 hr2 hes hes2
                  go_wp2_with fail
                  refine HC.out.mono ?_
                  rintro _ w2 ⟨rfl, d1, hs1, hr1, hg1, hsw⟩
                  have H1 := Lib.hid hs1; have H2 := Lib.hid hr1; have H3 := Lib.hid hg1; have H4 := Lib.hid hsw
                  clear hs1 hr1 hg1 hsw
                  go_wp2
                  go_meet
                  exact ⟨rfl, d1, by rw [H1.out, HRZ.out], H2.out, H3.out, H4.out⟩
                · have hd1 : decide (a < s ∧ s < mid) = false := decide_eq_false c1
                  rw [hd1]
                  have HM := Lib.hid (show Merged GAuctionBid.amount r r a mid from Merged.rf (by
                    by_cases c2 : a < s
                    · have : s = mid := by omega
                      rw [← this]; exact hr1
                    · have : s = a := by omega
                      rw [← this]; exact hr2))
                  clear hd1 hr1 hr2 hes hes2
                  go_wp2
                  go_meet
                  exact ⟨rfl, r, HRZ.out, HRW.out, GX.rf _, HM.out⟩
              case rest =>
                obtain ⟨rfl, d1, hz1', hr1', hg1', hm1'⟩ := hcut
                have H1 := Lib.hid hz1'; have H2 := Lib.hid hr1'; have H3 := Lib.hid (GX.tr _ _ _ HRG.out hg1'); have H4 := Lib.hid hm1'
                clear hz1' hr1' hg1' hm1'
                obtain ⟨w2, rfl⟩ : ∃ w', w' = wc := ⟨_, rfl⟩
                go_upto_region 43 with fail
                go_cut [213] (fun v wx => v = .bool (decide (mid < e ∧ e < b)) ∧ wx = w2)
                case first => as_aux_lemma =>
                  by_cases c1 : mid < e
                  · by_cases c2 : e < b
                    · go_wp2
                      go_meet
                      exact ⟨by simp [c1, c2], rfl⟩
                    · go_wp2
                      go_meet
                      exact ⟨by simp [c2], rfl⟩
                  · go_wp2
                    go_meet
                    exact ⟨by simp [c1], rfl⟩
                case rest => as_aux_lemma =>
                  obtain ⟨rfl, rfl⟩ := hcut
                  obtain ⟨w2, rfl⟩ : ∃ w', w' = wc := ⟨_, rfl⟩
                  have hes := HMID.out
                  have hes2 : s + (e - m) = mid := HES.out
                  have hr3 : FallsI GAuctionBid.amount d1 mid e := by
                    have := HCUT.out.r3 HROT.out
                    rw [hes2] at this
                    exact FallsI.same this fun x h5 _ => H4.out.out x (.inr h5)
                  have hr4 : FallsI GAuctionBid.amount d1 e b := FallsI.same (HCUT.out.r4 HROT.out) fun x h5 _ => H4.out.out x (.inr (by omega))
                  have hdone : ∀ d2, Merged GAuctionBid.amount d1 d2 mid b → Merged GAuctionBid.amount d d2 a b := fun d2 h5 => HCUT.out.done HROT.out (by rw [hes2]; exact H4.out) (by rw [hes2]; exact h5)
                  have HD := Lib.hid hdone
                  by_cases c1 : mid < e ∧ e < b
                  · have hc := IH.out g c mid e b d1 w2 (by omega) H2.out (by rw [H1.out]; omega) c1.1 c1.2 (by rw [H1.out]; omega) hr3 hr4
                    rw [H1.out] at hc
                    have HC := Lib.hid hc
                    have hd1 : decide (mid < e ∧ e < b) = true := decide_eq_true c1
                    rw [hd1]
                    clear hc hd1 hr3 hr4 hes hes2 hdone
                    go_wp2_with fail
                    refine HC.out.mono ?_
                    rintro _ w3 ⟨rfl, d2, hs2, hr2, hg2, hsw⟩
                    have K1 := Lib.hid hs2; have K2 := Lib.hid hr2; have K3 := Lib.hid hg2; have K4 := Lib.hid hsw
                    clear hs2 hr2 hg2 hsw
                    go_wp2
                    go_end0
                    exact ⟨rfl, d2, by rw [K1.out, H1.out, HZ.out], K2.out, GX.tr _ _ _ H3.out K3.out, HD.out _ K4.out⟩
                  · have hd1 : decide (mid < e ∧ e < b) = false := decide_eq_false c1
                    rw [hd1]
                    have HM := Lib.hid (show Merged GAuctionBid.amount d1 d1 mid b from Merged.rf (by
                      by_cases c2 : mid < e
                      · have : e = b := by omega
                        rw [← this]; exact hr3
                      · have : e = mid := by omega
                        rw [← this]; exact hr4))
                    clear hd1 hr3 hr4 hes hes2 hdone
                    go_wp2
                    go_end0
                    exact ⟨rfl, d1, by rw [H1.out, HZ.out], H2.out, H3.out, HD.out _ HM.out⟩
theorem symMerge_any : ∀ (N : Nat) (g c a m b : Nat) (d : Array GAuctionBid) (w : World), b - a ≤ N → RowB w g d → d.size ≤ 1000000 → a < m → m < b → b ≤ d.size → FallsI GAuctionBid.amount d a m → FallsI GAuctionBid.amount d m b →
      Calls Tryd.prog 72 #[.slice (some ⟨g, 0, none⟩) d.size c, .int .i64 a, .int .i64 m, .int .i64 b, .func (.func 44) #[] #[]] w (RowT w g d fun d' => Merged GAuctionBid.amount d d' a b)
  | 0, _, _, a, m, b, _, _, h, _, _, h1, h2, _, _, _ => by omega
  | N + 1, g, c, a, m, b, d, w, h, hR, hd, h1, h2, hb, f1, f2 => by
    by_cases e1 : m = a + 1
    · subst e1
      exact symMerge_first g c a b d w hR hd h2 hb f2
    · by_cases e2 : b = m + 1
      · subst e2
        exact symMerge_last g c a m d w hR hd (by omega) hb f1
      · exact symMerge_step N (symMerge_any N) g c a m b d w h hR hd (by omega) (by omega) hb f1 f2
end Go.Proofs.YtgeimnknmljplaaDoor
/- The library's stable sort of bids, of any length. Conditions: those named in each theorem. -/
namespace Go.Proofs.YtgeimnknmljplaaDoor
open Go Go.RowKit Go.Gv Go.Sort

abbrev bkey : GAuctionBid → Int := GAuctionBid.amount
theorem Merged.whole {d d' : Array GAuctionBid} {a b z : Nat} (h : Merged bkey d d' a b) (ha : a ≤ b) (hb : b ≤ z) : StabE bkey (sg d 0 z) (sg d' 0 z) := by
  rw [sg_split d (c := a) (by omega) (by omega), sg_split d (a := a) (c := b) ha hb, sg_split d' (c := a) (by omega) (by omega), sg_split d' (a := a) (c := b) ha hb]
  rw [sg_same (d := d) (d' := d') fun i _ h2 => h.out i (.inl h2), sg_same (a := b) (b := z) (d := d) (d' := d') fun i h1 _ => h.out i (.inr h1)]
  exact StabE.app (StabE.rf _) (StabE.app h.stab (StabE.rf _))
/-- The first k runs of s are sorted. -/
def Done (d : Array GAuctionBid) (s k : Nat) : Prop := ∀ t, t < k → FallsI bkey d (s * t) (s * t + s)
/-- From a on: runs of s, up to z. -/
def Runs (d : Array GAuctionBid) (s a z : Nat) : Prop := ∀ t, FallsI bkey d (a + s * t) (min (a + s * t + s) z)
theorem FallsI.none_ {d : Array GAuctionBid} {a b : Nat} (h : b ≤ a) : FallsI bkey d a b := fun i j h1 h2 h3 => by omega
theorem Done.next {d d' : Array GAuctionBid} {s k : Nat} (h : Done d s k) (hm : Merged bkey d d' (s * k) (s * k + s)) : Done d' s (k + 1) := fun t ht => by
  by_cases e : t = k
  · subst e; exact hm.falls
  · refine FallsI.same (h t (by omega)) fun x _ hx => hm.out x (.inl ?_)
    have : s * (t + 1) ≤ s * k := Nat.mul_le_mul_left s (by omega)
    rw [Nat.mul_add, Nat.mul_one] at this
    omega
theorem Done.runs {d d' : Array GAuctionBid} {s k z : Nat} (h : Done d s k) (hm : Merged bkey d d' (s * k) z) (hz : z ≤ s * k + s) : Runs d' s 0 z := fun t => by
  rw [Nat.zero_add]
  rcases Nat.lt_trichotomy t k with e | e | e
  · have : s * (t + 1) ≤ s * k := Nat.mul_le_mul_left s (by omega)
    rw [Nat.mul_add, Nat.mul_one] at this
    intro i j h1 h2 h3
    exact FallsI.same (h t e) (fun x _ hx => hm.out x (.inl (by omega))) i j h1 h2 (by omega)
  · subst e
    intro i j h1 h2 h3
    exact hm.falls i j h1 h2 (by omega)
  · have : s * (k + 1) ≤ s * t := Nat.mul_le_mul_left s (by omega)
    rw [Nat.mul_add, Nat.mul_one] at this
    exact FallsI.none_ (by omega)
theorem Runs.first {d : Array GAuctionBid} {s a z : Nat} (h : Runs d s a z) : FallsI bkey d a (min (a + s) z) := by have := h 0; simpa using this
theorem Runs.second {d : Array GAuctionBid} {s a z : Nat} (h : Runs d s a z) : FallsI bkey d (a + s) (min (a + s + s) z) := by have := h 1; simpa using this
theorem Runs.next {d d' : Array GAuctionBid} {s a z b : Nat} (h : Runs d s a z) (hm : Merged bkey d d' a (a + (s + s))) (hb : b = a + (s + s)) : Runs d' s b z := fun t => by
  subst hb
  have := h (t + 2)
  rw [Nat.mul_add] at this
  have e : a + (s * t + s * 2) = a + (s + s) + s * t := by omega
  rw [e] at this
  exact FallsI.same this fun x hx _ => hm.out x (.inr (by omega))
theorem Runs.whole {d : Array GAuctionBid} {s z : Nat} (h : Runs d s 0 z) (hz : z ≤ s) : FallsI bkey d 0 z := by
  have := h.first
  rwa [Nat.zero_add, Nat.min_eq_right hz] at this
theorem sortWorldK_blkFree {α : Type} [Inhabited α] (enc : α → List Value) (k : Nat) (w : World) (blk off m : Nat) (d : Array α) (os : Array Obj) (hl : blk < w.heap.size) (h : blkFree w blk = true) : blkFree (sortWorldK enc k w blk off m d os) blk = true := by
  unfold blkFree at *
  unfold sortWorldK putRowK putRow mapBlock grow
  show objFree ((Array.modify w.heap blk _ ++ os)[blk]?) = true
  rw [Array.getElem?_append, if_pos (by simpa using hl), Array.getElem?_modify, if_pos rfl]
  rw [Array.getElem?_eq_getElem hl] at h ⊢
  cases ho : w.heap[blk] with
  | cells cs t fr => rw [ho] at h; exact h
  | _ => rw [ho] at h; cases h
theorem insRow_any (g c a b : Nat) (d : Array GAuctionBid) (w : World) (hR : RowB w g d) (hab : a ≤ b) (hb : b ≤ d.size) (hn : d.size ≤ 1000000) :
    Calls Tryd.prog 71 #[.slice (some ⟨g, 0, none⟩) d.size c, .int .i64 a, .int .i64 b, .func (.func 44) #[] #[]] w (RowT w g d fun d' => Merged bkey d d' a b) := by
  have hH := hR.sl.holdsK hR.free
  have e0 : d.toList.toArray = d := by simp
  rw [e0] at hH
  have := AnyQ.insertionSortCmpFunc Tryd.insBid 2 Tryd.isAgg82 Tryd.sizeOf82 (Enc.enc : GAuctionBid → List Value) GAuctionBid.enc_len GAuctionBid.enc_one bidCmp 44 #[] g 0 c a b d w
    (enters_of Tryd.func44 (by kernel_rfl) rfl) (endFn_lays _ _ _ _) hH hR.lt hab hb (by omega)
  refine this.mono ?_
  rintro e w' ⟨rfl, n, os, rfl⟩
  have hM := insertion_merged bkey d hab hb
  rw [ltOf_bidCmp]
  obtain ⟨h1, h2⟩ := sorted_is (m := n) (os := os) hH hR.lt hM.size
  have hsz := sortWorldK_free (Enc.enc : GAuctionBid → List Value) 2 w g 0 n (insertionSort (ltK bkey) d a b) os
  refine ⟨rfl, _, hM.size, ⟨h1.more hsz, ?_, Nat.lt_of_lt_of_le hR.lt hsz⟩, h2, hM⟩
  exact sortWorldK_blkFree _ _ _ _ _ _ _ _ hR.lt hR.free
set_option maxRecDepth 100000 in
set_option maxHeartbeats 4000000 in
theorem stableRow_any (g c : Nat) (d : Array GAuctionBid) (w : World) (hR : RowB w g d) (hn : d.size ≤ 1000000) :
    Calls Tryd.prog 60 #[.slice (some ⟨g, 0, none⟩) d.size c, .int .i64 d.size, .func (.func 44) #[] #[]] w (RowT w g d fun d' => Merged bkey d d' 0 d.size) := by
  obtain ⟨z, hz⟩ : ∃ z, d.size = z := ⟨_, rfl⟩
  rw [hz] at hn ⊢
  have HZ := Lib.hid hz
  have HR := Lib.hid hR
  clear hR hz
  go_enter Tryd.func60, Tryd.ntmps60
  go_wp2_with fail
  go_loopw [7, 8] (fun va vb wr => ∃ (k a : Nat) (dk : Array GAuctionBid), a = 20 * k ∧ a ≤ z ∧ va = .int .i64 a ∧ vb = .int .i64 ((a + 20 : Nat) : Int) ∧ dk.size = z ∧ RowB wr g dk ∧ GX g w wr ∧ Done dk 20 k ∧ StabE bkey (sg d 0 z) (sg dk 0 z)) (fun va _ _ => z + 1 - (intOf va).toNat)
  case atStart => exact ⟨0, 0, d, rfl, Nat.zero_le _, rfl, rfl, HZ.out, HR.out, GX.rf _, (fun t ht => absurd ht (by omega)), StabE.rf _⟩
  case round =>
    obtain ⟨k, a, dk, hak, haz, rfl, rfl, hsz, hr, hg, hdn, hst⟩ := hrel
    have HSZ := Lib.hid hsz; have HRK := Lib.hid hr; have HG := Lib.hid hg; have HD := Lib.hid hdn; have HS := Lib.hid hst; have HAK := Lib.hid hak
    clear hsz hr hg hdn hst hak
    by_cases hlt : a + 20 ≤ z
    · have hc := insRow_any g c a (a + 20) dk wr HRK.out (by omega) (by rw [HSZ.out]; exact hlt) (by rw [HSZ.out]; exact hn)
      rw [HSZ.out] at hc
      obtain ⟨b, hb⟩ : ∃ b, a + 20 = b := ⟨_, rfl⟩
      rw [hb] at hc hlt ⊢
      have HC := Lib.hid hc
      have hn1 : (b : Int) ≤ (z : Int) := by omega
      clear hc
      go_wp2_with fail
      refine HC.out.mono ?_
      rintro _ w1 ⟨rfl, d1, hs1, hr1, hg1, hm1⟩
      have H1 := Lib.hid hs1; have H2 := Lib.hid hr1; have H3 := Lib.hid hg1; have H4 := Lib.hid hm1
      clear hs1 hr1 hg1 hm1
      go_wp2_with fail
      refine ⟨⟨k + 1, b, d1, by have := HAK.out; omega, hlt, rfl, by go_num, by rw [H1.out, HSZ.out], H2.out, GX.tr _ _ _ HG.out H3.out, HD.out.next (by rw [← HAK.out, hb]; exact H4.out), HS.out.tr (Merged.whole H4.out (by omega) hlt)⟩, ?_⟩
      show z + 1 - (b : Int).toNat < z + 1 - (a : Int).toNat
      omega
    · have hc := insRow_any g c a z dk wr HRK.out haz (by rw [HSZ.out]; exact Nat.le_refl _) (by rw [HSZ.out]; exact hn)
      rw [HSZ.out] at hc
      have HC := Lib.hid hc
      have hn1 : ¬ ((a + 20 : Nat) : Int) ≤ (z : Int) := by omega
      have hn2 : ¬ (a : Int) + 20 ≤ (z : Int) := by omega
      clear hc
      go_wp2_with fail
      refine HC.out.mono ?_
      rintro _ w1 ⟨rfl, d1, hs1, hr1, hg1, hm1⟩
      have H1 := Lib.hid hs1; have H2 := Lib.hid hr1; have H3 := Lib.hid (GX.tr _ _ _ HG.out hg1); have H4 := Lib.hid hm1
      have H5 := Lib.hid (show Runs d1 20 0 z from HD.out.runs (by rw [← HAK.out]; exact hm1) (by rw [← HAK.out]; omega))
      have H6 := Lib.hid (HS.out.tr (Merged.whole hm1 haz (Nat.le_refl _)))
      clear hs1 hr1 hg1 hm1 hn1 hn2
      go_wp2_with fail
      go_loopw [6] (fun vs wr => ∃ (s : Nat) (dk : Array GAuctionBid), 0 < s ∧ s ≤ 2000000 ∧ vs = .int .i64 s ∧ dk.size = z ∧ RowB wr g dk ∧ GX g w wr ∧ Runs dk s 0 z ∧ StabE bkey (sg d 0 z) (sg dk 0 z)) (fun vs _ => z - (intOf vs).toNat)
      case atStart => exact ⟨20, d1, by omega, by omega, rfl, by rw [H1.out, HSZ.out], H2.out, H3.out, H5.out, H6.out⟩
      case round =>
        clear H1 H2 H3 H4 H5 H6 HC HD HS HAK HSZ HRK HG hlt haz
        obtain ⟨s, dk, hs0, hs1, rfl, hsz, hr, hg, hrn, hst⟩ := hrel
        have HSZ := Lib.hid hsz; have HRK := Lib.hid hr; have HG := Lib.hid hg; have HD := Lib.hid hrn; have HS := Lib.hid hst
        clear hsz hr hg hrn hst
        by_cases hlt : s < z
        · go_wp2_with fail
          go_loopw [7, 8] (fun va vb wr' => ∃ (k a : Nat) (dd : Array GAuctionBid), a = (s + s) * k ∧ a ≤ z ∧ va = .int .i64 a ∧ vb = .int .i64 ((a + (s + s) : Nat) : Int) ∧ dd.size = z ∧ RowB wr' g dd ∧ GX g w wr' ∧ Done dd (s + s) k ∧ Runs dd s a z ∧ StabE bkey (sg d 0 z) (sg dd 0 z)) (fun va _ _ => z + 1 - (intOf va).toNat)
          case atStart => exact ⟨0, 0, dk, rfl, Nat.zero_le _, rfl, by congr 1; omega, HSZ.out, HRK.out, HG.out, (fun t ht => absurd ht (by omega)), HD.out, HS.out⟩
          case round =>
            clear HSZ HRK HG HD HS
            obtain ⟨k, a, dd, hak, haz, rfl, rfl, hsz, hr, hg, hdn, hrn, hst⟩ := hrel
            have HSZ := Lib.hid hsz; have HRK := Lib.hid hr; have HG := Lib.hid hg; have HD := Lib.hid hdn; have HRN := Lib.hid hrn; have HS := Lib.hid hst; have HAK := Lib.hid hak
            clear hsz hr hg hdn hrn hst hak
            obtain ⟨b, hb⟩ : ∃ b, a + (s + s) = b := ⟨_, rfl⟩
            rw [hb]
            have HB := Lib.hid hb
            have hf1 := HRN.out.first
            have hf2 := HRN.out.second
            by_cases hbz : b ≤ z
            · rw [Nat.min_eq_left (by omega)] at hf1 hf2
              rw [show a + s + s = b by omega] at hf2
              have hc := symMerge_any (b - a) g c a (a + s) b dd wr (Nat.le_refl _) HRK.out (by rw [HSZ.out]; omega) (by omega) (by omega) (by rw [HSZ.out]; exact hbz) hf1 hf2
              rw [HSZ.out, Int.natCast_add] at hc
              have HC := Lib.hid hc
              have hab : a < b := by omega
              clear hc hf1 hf2 hb
              go_wp2_with fail
              refine HC.out.mono ?_
              rintro _ w1 ⟨rfl, d1, hs1', hr1, hg1, hm1⟩
              have H1 := Lib.hid hs1'; have H2 := Lib.hid hr1; have H3 := Lib.hid hg1; have H4 := Lib.hid hm1
              clear hs1' hr1 hg1 hm1
              go_wp2_with fail
              refine ⟨⟨k + 1, b, d1, by rw [Nat.mul_add, Nat.mul_one, ← HAK.out, HB.out], hbz, rfl, by congr 1; omega, by rw [H1.out, HSZ.out], H2.out, GX.tr _ _ _ HG.out H3.out, HD.out.next (by rw [← HAK.out, HB.out]; exact H4.out), Runs.next HRN.out (by rw [HB.out]; exact H4.out) HB.out.symm, HS.out.tr (Merged.whole H4.out (by omega) hbz)⟩, ?_⟩
              show z + 1 - (b : Int).toNat < z + 1 - (a : Int).toNat
              omega
            · have hn1 : ¬ (b : Int) ≤ (z : Int) := by omega
              go_upto_if 54 with fail
              go_cut [6] (fun v wx => v = .int .i64 s ∧ ∃ d1 : Array GAuctionBid, d1.size = z ∧ RowB wx g d1 ∧ GX g w wx ∧ Merged bkey dd d1 a z)
              case first => as_aux_lemma =>
                by_cases hm : a + s < z
                · rw [Nat.min_eq_left (by omega)] at hf1
                  rw [Nat.min_eq_right (by omega)] at hf2
                  have hc := symMerge_any (z - a) g c a (a + s) z dd wr (Nat.le_refl _) HRK.out (by rw [HSZ.out]; omega) (by omega) hm (by rw [HSZ.out]; exact Nat.le_refl _) hf1 hf2
                  rw [HSZ.out, Int.natCast_add] at hc
                  have HC := Lib.hid hc
                  have hn2 : (a : Int) + (s : Int) < (z : Int) := by omega
                  clear hc hf1 hf2 hb
                  go_wp2_with fail
                  refine HC.out.mono ?_
                  rintro _ w1 ⟨rfl, d1, hs1', hr1, hg1, hm1⟩
                  have H1 := Lib.hid hs1'; have H2 := Lib.hid hr1; have H3 := Lib.hid hg1; have H4 := Lib.hid hm1
                  clear hs1' hr1 hg1 hm1
                  go_wp2
                  go_meet
                  exact ⟨rfl, d1, by rw [H1.out, HSZ.out], H2.out, GX.tr _ _ _ HG.out H3.out, H4.out⟩
                · rw [Nat.min_eq_right (by omega)] at hf1
                  have H4 := Lib.hid (Merged.rf hf1)
                  have hn2 : ¬ (a : Int) + (s : Int) < (z : Int) := by omega
                  clear hf1 hf2 hb
                  go_wp2
                  go_meet
                  exact ⟨rfl, dd, HSZ.out, HRK.out, HG.out, H4.out⟩
              case rest =>
                obtain ⟨rfl, d1, hs1', hr1, hg1, hm1⟩ := hcut
                have H1 := Lib.hid hs1'; have H2 := Lib.hid hr1; have H3 := Lib.hid hg1
                have H4 := Lib.hid (show Runs d1 (s + s) 0 z from HD.out.runs (by rw [← HAK.out]; exact hm1) (by rw [← HAK.out]; omega))
                have H5 := Lib.hid (HS.out.tr (Merged.whole hm1 haz (Nat.le_refl _)))
                clear hs1' hr1 hg1 hm1 hf1 hf2
                go_wp2_with fail
                refine ⟨⟨s + s, d1, by omega, by omega, by congr 1; omega, H1.out, H2.out, H3.out, H4.out, H5.out⟩, ?_⟩
                simp [intOf]; omega
        · have hn1 : ¬ (s : Int) < (z : Int) := by omega
          go_wp2_with fail
          go_end0
          refine ⟨rfl, dk, by rw [HSZ.out, HZ.out], HRK.out, HG.out, by rw [HSZ.out, HZ.out], fun x hx => ?_, HD.out.whole (by omega), HS.out⟩
          rcases hx with hx | hx
          · omega
          · rw [getElem!_neg _ _ (by rw [HSZ.out]; omega), getElem!_neg _ _ (by rw [HZ.out]; omega)]
end Go.Proofs.YtgeimnknmljplaaDoor
