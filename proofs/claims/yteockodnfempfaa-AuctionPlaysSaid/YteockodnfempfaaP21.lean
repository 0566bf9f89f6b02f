/- The names of a house, sorted: how many they are. Conditions: those named in each theorem. -/
import Derived.Test.YteockodnfempfaaP2
import Derived.Test.YteockodnfempfaaP1
import Derived.Test.YteockodnfempfaaP4
import Derived.Shelf.SlIter.Nil
import Derived.Shelf.SortM.Plain
import Derived.Shelf.SortM.SortNone
import Derived.Test.YteockodnfempfaaProg
import Derived.StringKeys
/- Worlds that differ in some blocks alone; slices by the blocks they lie in. Conditions: those named in each theorem. -/
namespace Go.Proofs.Yteockodnfempfaa
open Go Go.RowKit Go.Gv

/-- w' is w but for the blocks S, and new ones. -/
structure Chg (S : Nat → Prop) (w w' : World) : Prop where
  os : w'.os = w.os
  tape : w'.tape = w.tape
  output : w'.output = w.output
  size : w.heap.size ≤ w'.heap.size
  block : ∀ k, k < w.heap.size → ¬ S k → w'.heap[k]? = w.heap[k]?
theorem Chg.sub {S S' : Nat → Prop} {w w' : World} (h : Chg S w w') (hS : ∀ k, S k → S' k) : Chg S' w w' := ⟨h.os, h.tape, h.output, h.size, fun k hk hn => h.block k hk (fun hs => hn (hS k hs))⟩
section
variable {S S' : Nat → Prop} {w w' w2 : World}
theorem Chg.refl (S : Nat → Prop) (w : World) : Chg S w w := ⟨rfl, rfl, rfl, Nat.le_refl _, fun _ _ _ => rfl⟩
theorem Chg.trans (h : Chg S w w') (k : Chg S' w' w2) (hS : ∀ k, S' k → S k ∨ w.heap.size ≤ k) : Chg S w w2 :=
  ⟨k.os.trans h.os, k.tape.trans h.tape, k.output.trans h.output, Nat.le_trans h.size k.size, fun i hi hn => (k.block i (Nat.lt_of_lt_of_le hi h.size) (fun hs => by rcases hS i hs with h1 | h1; exact hn h1; omega)).trans (h.block i hi hn)⟩
theorem Chg.tr (h : Chg S w w') (k : Chg S w' w2) : Chg S w w2 := h.trans k fun _ h => .inl h
theorem Chg.of_bel (h : Bel w w') (S : Nat → Prop) : Chg S w w' := ⟨Below.os h, Below.tape h, Below.output h, Below.size h, fun k hk _ => Below.block h k hk⟩
theorem Chg.of_grown {row : Option Nat} (h : w.grownBy w' row) (hS : ∀ k, row = some k → S k) : Chg S w w' := ⟨h.os, h.tape, h.output, h.size, fun k hk hn => h.block k hk (fun e => hn (hS k e.symm))⟩
theorem Chg.bel (h : Chg S w w') (hS : ∀ k, S k → w.heap.size ≤ k) : Bel w w' := ⟨h.os, h.tape, h.output, h.size, fun k hk => h.block k hk (fun hs => by have := hS k hs; omega)⟩
theorem Chg.bel2 {w0 : World} (hb : Bel w0 w) (h : Chg S w w') (hS : ∀ k, S k → w0.heap.size ≤ k) : Bel w0 w' :=
  ⟨h.os.trans (Below.os hb), h.tape.trans (Below.tape hb), h.output.trans (Below.output hb), Nat.le_trans hb.size h.size, fun k hk => (h.block k (Nat.lt_of_lt_of_le hk hb.size) (fun hs => by have := hS k hs; omega)).trans (Below.block hb k hk)⟩
theorem Chg.cell {p : Addr} {v : Value} (h : Chg S w w') (hc : w.cell? p = some v) (hp : ¬ S p.block) : w'.cell? p = some v :=
  (World.cell?_of_block (w := w) (h.block _ (World.block_lt_of_cell? w _ hc) hp)).trans hc
theorem Chg.get {α : Type} [Enc α] {a : Addr} {x : α} (h : Chg S w w') (hg : get? α w a = some x) (hp : ¬ S a.block) : get? α w' a = some x := (get?_keep (h.block _ (get?_lt hg) hp)).trans hg
theorem Chg.free {n : Nat} (h : Chg S w w') (hf : blkFree w n = true) (hl : n < w.heap.size) (hn : ¬ S n) : blkFree w' n = true := (blkFree_keep (h.block _ hl hn)).trans hf
theorem Chg.map {K V : Type} [DecidableEq K] [KEnc K] [VEnc V] {r : Nat} {m : List (K × V)} (h : Chg S w w') (hm : mapAt K V w r = some m) (hr : ¬ S r) : mapAt K V w' r = some m := (mapAt_keep (h.block _ (mapAt_lt hm) hr)).trans hm
/-- A slice whose block, if it has elements, is one of Q. -/
def SlQ (α : Type) [Enc α] (Q : Nat → Prop) (w : World) (h : Hdr) (xs : List α) : Prop := Sl α w w.heap.size h.a h.len xs ∧ h.len ≤ h.cap ∧ h.cap ≤ maxLen ∧ (0 < h.len → ∀ ad, h.a = some ad → Q ad.block)
theorem _root_.Go.Gv.Sl.chg {α : Type} [Enc α] {A : Option Addr} {n : Nat} {xs : List α} (h : Chg S w w') (hs : Sl α w w.heap.size A n xs) (hx : 0 < n → ∀ ad, A = some ad → ¬ S ad.block) : Sl α w' w'.heap.size A n xs := by
  refine ⟨hs.1, fun hn => ?_⟩
  obtain ⟨ad, e, hb, hc⟩ := hs.2 hn
  exact ⟨ad, e, Nat.lt_of_lt_of_le hb h.size, fun k x hx' => Chg.get h (hc k x hx') (by rw [add_block]; exact hx hn ad e)⟩
theorem SlQ.chg {α : Type} [Enc α] {Q : Nat → Prop} {hd : Hdr} {xs : List α} (h : Chg S w w') (hs : SlQ α Q w hd xs) (hQ : ∀ k, Q k → ¬ S k) : SlQ α Q w' hd xs := ⟨Sl.chg h hs.1 (fun hn ad e => hQ _ (hs.2.2.2 hn ad e)), hs.2.1, hs.2.2.1, hs.2.2.2⟩
theorem SlQ.mono {α : Type} [Enc α] {Q Q' : Nat → Prop} {hd : Hdr} {xs : List α} (hs : SlQ α Q w hd xs) (hQ : ∀ k, k < w.heap.size → Q k → Q' k) : SlQ α Q' w hd xs :=
  ⟨hs.1, hs.2.1, hs.2.2.1, fun hn ad e => hQ _ (hs.1.block_lt hn e) (hs.2.2.2 hn ad e)⟩
theorem SlQ.bel {α : Type} [Enc α] {Q : Nat → Prop} {hd : Hdr} {xs : List α} (hs : SlQ α Q w hd xs) (hb : Bel w w') : SlQ α Q w' hd xs := ⟨hs.1.stepB hb, hs.2⟩
theorem _root_.Go.Gv.OwnS.keep {α : Type} [Enc α] {base : Nat} {e : TypeId} {v : Value} {xs : List α} (h : OwnS w base e v xs) (hk : ∀ k, v.ownBlock = some k → w'.heap[k]? = w.heap[k]?) : OwnS w' base e v xs := by
  refine ⟨h.1, ?_⟩
  rcases h.2 with ⟨h1, h2⟩ | ⟨g, cap, cur, hv, hb, hh, rest⟩
  · exact .inl ⟨h1, h2⟩
  · exact .inr ⟨g, cap, cur, hv, hb, (hk g (by rw [hv]; rfl)).trans hh, rest⟩
theorem _root_.Go.Gv.OwnS.chg {α : Type} [Enc α] {base : Nat} {e : TypeId} {v : Value} {xs : List α} (h : OwnS w base e v xs) (hc : Chg S w w') (hS : ∀ k, v.ownBlock = some k → ¬ S k) : OwnS w' base e v xs :=
  h.keep fun k hk => hc.block k (h.lt k hk).2 (hS k hk)
end
end Go.Proofs.Yteockodnfempfaa
/- What a list of pairs has at a key. Conditions: those named in each theorem. -/
namespace Go.Proofs.Yteockodnfempfaa
open Go Go.RowKit Go.Gv
theorem mgetMem {K V : Type} [DecidableEq K] : ∀ {m : List (K × V)}, (m.map (·.1)).Nodup → ∀ {k : K} {v : V}, mget m k = some v ↔ (k, v) ∈ m
  | [], _, k, v => by simp [mget_nil]
  | p :: m, hn, k, v => by
    rw [List.map_cons, List.nodup_cons] at hn
    rw [mget_cons, List.mem_cons]
    by_cases e : p.1 = k
    · rw [if_pos e]
      constructor
      · intro h; injection h with h; left; rw [← e, ← h]
      · rintro (h | h)
        · rw [← h]
        · exact absurd (List.mem_map.2 ⟨_, h, e.symm⟩) hn.1
    · rw [if_neg e, mgetMem hn.2]
      constructor
      · exact .inr
      · rintro (h | h)
        · exact absurd (by rw [← h]) e
        · exact h
end Go.Proofs.Yteockodnfempfaa
/- Houses of many auctions by names of two letters. Conditions: those named in each theorem. -/
namespace Go.Proofs.Yteockodnfempfaa
open Go Go.RowKit Go.Gv Go.Sort

def nmB (i : Nat) : ByteArray := ⟨#[UInt8.ofNat (97 + i / 26), UInt8.ofNat (97 + i % 26)]⟩
theorem nmB_inj {i j : Nat} (hi : i < 100) (hj : j < 100) (h : nmB i = nmB j) : i = j := by
  unfold nmB at h
  injection h with h
  have h0 := congrArg Array.toList h
  simp only [List.cons.injEq, and_true] at h0
  obtain ⟨h1, h2⟩ := h0
  have h1 := congrArg UInt8.toNat h1
  have h2 := congrArg UInt8.toNat h2
  simp only [UInt8.toNat_ofNat'] at h1 h2
  omega
theorem nmB_ok : ∀ i < 100, badOpen (nmB i) 0 = false := by decide +kernel
def manyH (cs : List Int) : MHouse := cs.mapIdx fun i c => (nmB i, newSale (nmB i) (decide (i % 2 = 0)) 0 c)
theorem manyH_len (cs : List Int) : (manyH cs).length = cs.length := by unfold manyH; simp
theorem manyH_snoc (cs : List Int) (c : Int) : manyH (cs ++ [c]) = manyH cs ++ [(nmB cs.length, newSale (nmB cs.length) (decide (cs.length % 2 = 0)) 0 c)] := by unfold manyH; simp [List.mapIdx_append]
theorem manyH_mem {cs : List Int} {q : ByteArray × MSale} (h : q ∈ manyH cs) : ∃ i c, cs[i]? = some c ∧ q = (nmB i, newSale (nmB i) (decide (i % 2 = 0)) 0 c) := by
  unfold manyH at h
  rw [List.mem_mapIdx] at h
  obtain ⟨i, hi, rfl⟩ := h
  exact ⟨i, cs[i], List.getElem?_eq_getElem hi, rfl⟩
theorem manyH_new {cs : List Int} {i : Nat} (h1 : cs.length ≤ i) (hi : i < 100) : nmB i ∉ (manyH cs).map (·.1) := by
  intro h
  rw [List.mem_map] at h
  obtain ⟨q, hq, e⟩ := h
  obtain ⟨j, c, hj, rfl⟩ := manyH_mem hq
  have hjl : j < cs.length := (List.getElem?_eq_some_iff.1 hj).1
  have := nmB_inj (i := j) (j := i) (by omega) hi e
  omega
theorem openR_many {cs : List Int} {c : Int} (h : cs.length < 64) (hc : 0 < c) : openR (manyH cs) (nmB cs.length) 0 c 0 = 0 := by
  unfold openR
  rw [if_neg (by rw [nmB_ok _ (by omega)]; decide), mget_none.2 (manyH_new (Nat.le_refl _) (by omega)), manyH_len]
  rw [if_neg (by decide), if_neg (by omega), if_neg (by omega)]
theorem openR_full {cs : List Int} {c : Int} {i : Nat} (h : cs.length = 64) (hi : 64 ≤ i) (hi2 : i < 100) (hc : 0 < c) : openR (manyH cs) (nmB i) 0 c 0 = 7 := by
  unfold openR
  rw [if_neg (by rw [nmB_ok _ (by omega)]; decide), mget_none.2 (manyH_new (by omega) (by omega)), manyH_len]
  rw [if_neg (by decide), if_neg (by omega), if_pos (by omega)]
theorem openH_many {cs : List Int} {c : Int} (h : cs.length < 64) (hc : 0 < c) : openH (manyH cs) (nmB cs.length) (decide (cs.length % 2 = 0)) 0 c 0 = manyH (cs ++ [c]) := by
  unfold openH
  rw [if_pos (openR_many h hc), manyH_snoc]
  unfold mset
  rw [if_neg (manyH_new (Nat.le_refl _) (by omega))]
theorem manyH_named (cs : List Int) : Named (manyH cs) := by
  intro q hq
  obtain ⟨i, c, _, rfl⟩ := manyH_mem hq
  rfl
theorem manyH_bids (cs : List Int) : ∀ q ∈ manyH cs, q.2.bids.length ≤ 1000000 := by
  intro q hq
  obtain ⟨i, c, _, rfl⟩ := manyH_mem hq
  show ([] : List GAuctionBid).length ≤ 1000000
  decide
theorem manyH_nodup : ∀ (n : Nat) (cs : List Int), cs.length = n → n ≤ 64 → ((manyH cs).map (·.1)).Nodup
  | 0, cs, h, _ => by
    obtain rfl : cs = [] := List.length_eq_zero_iff.1 h
    simp [manyH]
  | n + 1, cs, h, hn => by
    have hne : cs ≠ [] := by intro e; subst e; simp at h
    have e := List.dropLast_concat_getLast hne
    have hl : cs.dropLast.length = n := by simp [h]
    rw [← e, manyH_snoc, List.map_append, List.nodup_append]
    refine ⟨manyH_nodup n _ hl (by omega), by simp, ?_⟩
    intro a ha b hb hab
    simp only [List.map_cons, List.map_nil, List.mem_singleton] at hb
    subst hb; subst hab
    exact manyH_new (Nat.le_refl _) (by omega) ha
theorem dueM_append (H H2 : MHouse) (now : Int) : dueM (H ++ H2) now = dueM H now ++ dueM H2 now := by unfold dueM; simp
theorem dueM_many_len (now : Int) : ∀ (n : Nat) (cs : List Int), cs.length = n → (dueM (manyH cs) now).length = (cs.filter fun c => decide (c < now)).length
  | 0, cs, h => by
    obtain rfl : cs = [] := List.length_eq_zero_iff.1 h
    rfl
  | n + 1, cs, h => by
    have hne : cs ≠ [] := by intro e; subst e; simp at h
    have e := List.dropLast_concat_getLast hne
    have hl : cs.dropLast.length = n := by simp [h]
    rw [← e, manyH_snoc, dueM_append, List.length_append, dueM_many_len now n _ hl, List.filter_append, List.length_append]
    congr 1
    unfold dueM dueB newSale
    by_cases hc : cs.getLast hne < now <;> simp [hc]
theorem dueM_many_mem {cs : List Int} {now : Int} {x : MSale} (h : x ∈ dueM (manyH cs) now) : ∃ i c, cs[i]? = some c ∧ x = newSale (nmB i) (decide (i % 2 = 0)) 0 c := by
  unfold dueM at h
  rw [List.mem_map] at h
  obtain ⟨q, hq, rfl⟩ := h
  obtain ⟨i, c, hi, rfl⟩ := manyH_mem (List.mem_filter.1 hq).1
  exact ⟨i, c, hi, rfl⟩
theorem endR_new (k : ByteArray) (v : Bool) (r c : Int) : endR (newSale k v r c) = ⟨k, -1, 0⟩ := endR_none rfl
/-- One behind the other: closes first, then names. -/
theorem many_order {D : List MSale} {H : MHouse} {now : Int} (hn : (H.map (·.1)).Nodup) (hN : Named H) (hD : D.Perm (dueM H now)) (hs : D.Pairwise saleLe) {i : Nat} {x y : MSale} (hx : D[i]? = some x) (hy : D[i + 1]? = some y) :
    x.close < y.close ∨ (x.close = y.close ∧ y.name ≠ x.name ∧ ¬ y.name.toList < x.name.toList) := by
  have hnd := due_names hn hN hD
  have h1 : D.drop i = x :: y :: D.drop (i + 2) := by
    rw [List.drop_eq_getElem_cons (List.getElem?_eq_some_iff.1 hx).1, List.drop_eq_getElem_cons (List.getElem?_eq_some_iff.1 hy).1, (List.getElem?_eq_some_iff.1 hx).2, (List.getElem?_eq_some_iff.1 hy).2]
  have h2 := (hs.sublist (List.drop_sublist i D))
  rw [h1, List.pairwise_cons] at h2
  have h3 := hnd.sublist ((List.drop_sublist i D).map (·.name))
  rw [h1, List.map_cons, List.map_cons, List.nodup_cons] at h3
  rcases h2.1 y (by simp) with h | ⟨h, h'⟩
  · exact .inl h
  · refine .inr ⟨h, fun e => h3.1 (by rw [← e]; simp), h'⟩
end Go.Proofs.Yteockodnfempfaa
/- The library's functions at this program: which is which; printed by the kit's lay-plain. -/
namespace Go.Proofs.Yteockodnfempfaa
open Go Go.Proofs
open Go.Shelf
def Try.keysSale_ren : Go.Shelf.Ren := ⟨fun | 7 => 97 | 10 => 127 | n => n, fun | 23 => 141 | 26 => 9 | 3 => 146 | 28 => 182 | 0 => 0 | 27 => 181 | 33 => 148 | 4 => 4 | n => n, fun | n => n⟩
theorem Try.keysSale : Go.Proofs.SlLaysZ.n7 Try.prog Try.keysSale_ren := {
  mixed := by kernel_rfl
  f7 := ⟨Try.f97.name, by decide, Try.func97.trans (congrArg some (by kernel_rfl))⟩
  f10 := ⟨Try.f127.name, by decide, Try.func127.trans (congrArg some (by kernel_rfl))⟩
  t0 := Try.underlying0
  a0 := Try.isAgg0
  z0 := Try.sizeOf0
  v0 := Try.zeroValue0
  t4 := Try.underlying4
  a4 := Try.isAgg4
  z4 := Try.sizeOf4
  v4 := Try.zeroValue4
  t23 := Try.underlying141
  a23 := Try.isAgg141
  z23 := Try.sizeOf141
  v23 := Try.zeroValue141
  t26 := Try.underlying9
  a26 := Try.isAgg9
  z26 := Try.sizeOf9
  v26 := Try.zeroValue9
  t27 := Try.underlying181
  a27 := Try.isAgg181
  z27 := Try.sizeOf181
  v27 := Try.zeroValue181
  t28 := Try.underlying182
  a28 := Try.isAgg182
  z28 := Try.sizeOf182
  v28 := Try.zeroValue182
  t33 := Try.underlying148
  a33 := Try.isAgg148
  z33 := Try.sizeOf148
  v33 := Try.zeroValue148 }
def Try.sortedStr_ren : Go.Shelf.Ren := ⟨fun | 6 => 96 | 8 => 125 | 9 => 126 | 11 => 147 | 13 => 111 | 12 => 148 | 23 => 140 | 24 => 141 | 14 => 167 | 15 => 168 | 16 => 169 | 17 => 170 | 18 => 171 | 19 => 172 | 20 => 173 | 21 => 174 | 22 => 175 | 25 => 185 | 26 => 150 | 27 => 151 | 28 => 186 | 29 => 187 | 30 => 113 | 31 => 192 | n => n, fun | 26 => 9 | 28 => 182 | 24 => 127 | 0 => 0 | 3 => 3 | 37 => 198 | 48 => 231 | 50 => 28 | 4 => 4 | 40 => 225 | 39 => 224 | 45 => 105 | 5 => 5 | 9 => 9 | 51 => 240 | 55 => 243 | 57 => 263 | 58 => 264 | 33 => 148 | n => n, fun | n => n⟩
theorem Try.sortedStr : Go.Proofs.SlLaysZ.n6 Try.prog Try.sortedStr_ren := {
  mixed := by kernel_rfl
  f6 := ⟨Try.f96.name, by decide, Try.func96.trans (congrArg some (by kernel_rfl))⟩
  f8 := ⟨Try.f125.name, by decide, Try.func125.trans (congrArg some (by kernel_rfl))⟩
  f11 := ⟨Try.f147.name, by decide, Try.func147.trans (congrArg some (by kernel_rfl))⟩
  t0 := Try.underlying0
  a0 := Try.isAgg0
  z0 := Try.sizeOf0
  v0 := Try.zeroValue0
  t24 := Try.underlying127
  a24 := Try.isAgg127
  z24 := Try.sizeOf127
  v24 := Try.zeroValue127
  t26 := Try.underlying9
  a26 := Try.isAgg9
  z26 := Try.sizeOf9
  v26 := Try.zeroValue9
  t28 := Try.underlying182
  a28 := Try.isAgg182
  z28 := Try.sizeOf182
  v28 := Try.zeroValue182
  i26 := by kernel_rfl }
def Try.sortStr_ren : Go.Shelf.Ren := ⟨fun | 6 => 126 | 8 => 111 | 9 => 148 | 19 => 140 | 20 => 141 | 21 => 167 | 22 => 168 | 23 => 169 | 24 => 170 | 25 => 171 | 26 => 172 | 27 => 173 | 28 => 174 | 29 => 175 | 36 => 185 | 31 => 150 | 32 => 151 | 37 => 186 | 38 => 187 | 39 => 113 | 41 => 192 | n => n, fun | 27 => 127 | 29 => 9 | 3 => 3 | 32 => 198 | 26 => 127 | 0 => 0 | 44 => 231 | 46 => 28 | 4 => 4 | 36 => 225 | 35 => 224 | 41 => 105 | 5 => 5 | 9 => 9 | 53 => 240 | 57 => 243 | 63 => 263 | 64 => 264 | n => n, fun | n => n⟩
theorem Try.sortStr : Go.Proofs.SlLaysM.n6 Try.prog Try.sortStr_ren := {
  mixed := by kernel_rfl
  f6 := ⟨Try.f126.name, by decide, Try.func126.trans (congrArg some (by kernel_rfl))⟩
  f8 := Try.func111.trans (congrArg some (by kernel_rfl))
  f9 := ⟨Try.f148.name, by decide, Try.func148.trans (congrArg some (by kernel_rfl))⟩
  f19 := Try.func140.trans (congrArg some (by kernel_rfl))
  f20 := Try.func141.trans (congrArg some (by kernel_rfl))
  f21 := ⟨Try.f167.name, by decide, Try.func167.trans (congrArg some (by kernel_rfl))⟩
  f22 := ⟨Try.f168.name, by decide, Try.func168.trans (congrArg some (by kernel_rfl))⟩
  f23 := ⟨Try.f169.name, by decide, Try.func169.trans (congrArg some (by kernel_rfl))⟩
  f24 := ⟨Try.f170.name, by decide, Try.func170.trans (congrArg some (by kernel_rfl))⟩
  f25 := ⟨Try.f171.name, by decide, Try.func171.trans (congrArg some (by kernel_rfl))⟩
  f26 := ⟨Try.f172.name, by decide, Try.func172.trans (congrArg some (by kernel_rfl))⟩
  f27 := ⟨Try.f173.name, by decide, Try.func173.trans (congrArg some (by kernel_rfl))⟩
  f28 := ⟨Try.f174.name, by decide, Try.func174.trans (congrArg some (by kernel_rfl))⟩
  f29 := ⟨Try.f175.name, by decide, Try.func175.trans (congrArg some (by kernel_rfl))⟩
  f31 := Try.func150.trans (congrArg some (by kernel_rfl))
  f32 := Try.func151.trans (congrArg some (by kernel_rfl))
  f36 := ⟨Try.f185.name, by decide, Try.func185.trans (congrArg some (by kernel_rfl))⟩
  f37 := ⟨Try.f186.name, by decide, Try.func186.trans (congrArg some (by kernel_rfl))⟩
  f38 := ⟨Try.f187.name, by decide, Try.func187.trans (congrArg some (by kernel_rfl))⟩
  f39 := ⟨Try.f113.name, by decide, Try.func113.trans (congrArg some (by kernel_rfl))⟩
  f41 := ⟨Try.f192.name, by decide, Try.func192.trans (congrArg some (by kernel_rfl))⟩
  t0 := Try.underlying0
  a0 := Try.isAgg0
  z0 := Try.sizeOf0
  v0 := Try.zeroValue0
  t3 := Try.underlying3
  a3 := Try.isAgg3
  z3 := Try.sizeOf3
  v3 := Try.zeroValue3
  t4 := Try.underlying4
  a4 := Try.isAgg4
  z4 := Try.sizeOf4
  v4 := Try.zeroValue4
  t5 := Try.underlying5
  a5 := Try.isAgg5
  z5 := Try.sizeOf5
  v5 := Try.zeroValue5
  t9 := Try.underlying9
  a9 := Try.isAgg9
  z9 := Try.sizeOf9
  v9 := Try.zeroValue9
  t26 := Try.underlying127
  a26 := Try.isAgg127
  z26 := Try.sizeOf127
  v26 := Try.zeroValue127
  t27 := Try.underlying127
  a27 := Try.isAgg127
  z27 := Try.sizeOf127
  v27 := Try.zeroValue127
  t29 := Try.underlying9
  a29 := Try.isAgg9
  z29 := Try.sizeOf9
  v29 := Try.zeroValue9
  t32 := Try.underlying198
  a32 := Try.isAgg198
  z32 := Try.sizeOf198
  v32 := Try.zeroValue198
  t35 := Try.underlying224
  a35 := Try.isAgg224
  z35 := Try.sizeOf224
  v35 := Try.zeroValue224
  t36 := Try.underlying225
  a36 := Try.isAgg225
  z36 := Try.sizeOf225
  v36 := Try.zeroValue225
  t41 := Try.underlying105
  a41 := Try.isAgg105
  z41 := Try.sizeOf105
  v41 := Try.zeroValue105
  t44 := Try.underlying231
  a44 := Try.isAgg231
  z44 := Try.sizeOf231
  v44 := Try.zeroValue231
  t46 := Try.underlying28
  a46 := Try.isAgg28
  z46 := Try.sizeOf28
  v46 := Try.zeroValue28
  t53 := Try.underlying240
  a53 := Try.isAgg240
  z53 := Try.sizeOf240
  v53 := Try.zeroValue240
  t57 := Try.underlying243
  a57 := Try.isAgg243
  z57 := Try.sizeOf243
  v57 := Try.zeroValue243
  t63 := Try.underlying263
  a63 := Try.isAgg263
  z63 := Try.sizeOf263
  v63 := Try.zeroValue263
  t64 := Try.underlying264
  a64 := Try.isAgg264
  z64 := Try.sizeOf264
  v64 := Try.zeroValue264 }
end Go.Proofs.Yteockodnfempfaa
/- The names of a house, sorted: how many they are. Conditions: those named in each theorem. -/
namespace Go.Proofs.Yteockodnfempfaa
open Go Go.RowKit Go.Gv Go.Sort Go.Proofs Go.Maps Go.MapKept Go.ChangeMaps Go.Shelf

theorem Try.sorts96 (m : Nat) : AnyZ.SortsIn Try.prog Try.sortedStr_ren Fence.wide m :=
  ⟨fun blk off cap ss W hH hblk hsz => callsIn_wide.2 (AnyM.slices_Sort_string Try.sortStr blk off cap ss W hH hblk hsz),
   fun p cap W => callsIn_wide.2 (AnyM.slices_Sort_string_none Try.sortStr p cap W)⟩

theorem Try.maps_Keys_97 (mb : Option Nat) (W : World) : CallsIn Fence.wide 5 Try.prog 97 #[.map mb] W fun e w' => e = .returned (.func (.func 127) #[] #[.pointer (some ⟨W.heap.size, 0, none⟩)]) ∧ w' = W.alloc (.cells #[.map mb] 141) :=
  AnyZ.keys_in Try.keysSale Fence.wide 5 trivial rfl mb W

set_option maxHeartbeats 1000000 in
theorem Try.slices_Sorted_keys_96_97 {H : Type} (b nn : Nat) (D0 : DataW H) (R : Value → Option (DataW H × List MemPlace)) (w : World) (hown : w.ownsMap Try.prog 9 R b nn D0) (hmax : Maps.size D0 ≤ maxLen) (hbytes : Maps.size D0 * 16 ≤ 140737488355328) :
    CallsIn Fence.wide 5 Try.prog 96 #[.func (.func 127) #[] #[.pointer (some ⟨w.heap.size, 0, none⟩)]] (w.alloc (.cells #[.map (some b)] 141)) fun e w' => ∃ (v : Value) (ss : List (List UInt8)), e = .returned v ∧ ss.Perm (strKeys D0) ∧
      w'.ownsRow (w.alloc (.cells #[.map (some b)] 141)).heap.size 9 1 v ss.length ((ss.mergeSort (fun x y => decide (x ≤ y))).map encStr) ∧ (v = .slice none 0 0 ↔ ss = []) ∧ Below (w.alloc (.cells #[.map (some b)] 141)).heap.size (w.alloc (.cells #[.map (some b)] 141)) w' := by
  have hbl := hown.lt
  have hseq : SeqGives Fence.wide 2 Try.prog 127 #[.pointer (some ⟨w.heap.size, 0, none⟩)] encStr (fun ss => ss.Perm (strKeys D0)) (Maps.size D0) (w.alloc (.cells #[.map (some b)] 141)) :=
    AnyZ.keys_gives (ρ := Try.keysSale_ren) { Try.keysSale with } Fence.wide _ trivial rfl (by omega) w.heap.size b nn D0 _ (by simp) (by simp) (by
      obtain ⟨es, clock, hb, Ft, hs, hD⟩ := hown
      exact ⟨es, clock, (Below.heap_alloc _ _ b hbl).trans hb, Ft, hs, hD⟩)
  exact AnyZ.sorted_in Try.sortedStr Fence.wide 5 trivial trivial trivial trivial rfl (by omega) (Try.sorts96 _) (enters_of Try.func126 (by kernel_rfl) rfl) 127 #[.pointer (some ⟨w.heap.size, 0, none⟩)] trivial (enters_of Try.func127 (by kernel_rfl) rfl) _ _ hmax hbytes _ hseq

theorem own_of_map {V : Type} [VEnc V] {P : Program} {k : TypeId} (hk : P.underlying k = some .string) {w : World} {r : Nat} {m : List (ByteArray × V)} (hm : mapAt ByteArray V w r = some m) (hs : ∀ p ∈ m, p.1.size ≤ maxLen) (hl : m.length ≤ maxLen) :
    ∃ D0 : DataW Unit, w.ownsMap P k (fun _ => some (.nil, [])) r m.length D0 ∧ Maps.size D0 = m.length ∧ (strKeys D0).length = m.length := by
  obtain ⟨es, clock, hb, he, hn, hp, hc⟩ := mapAt_iff.1 hm
  have hlen : es.size = m.length := by have := congrArg List.length he; simpa using this
  have hkey : ∀ x ∈ es.toList, ∃ s : ByteArray, x.key = .string s ∧ s.size ≤ maxLen := by
    intro x hx
    have h1 : (x.key, x.val) ∈ es.toList.map (fun e => (e.key, e.val)) := List.mem_map.2 ⟨x, hx, rfl⟩
    rw [he, List.mem_map] at h1
    obtain ⟨p, hp1, hp2⟩ := h1
    injection hp2 with h2 _
    exact ⟨p.1, h2.symm, hs p hp1⟩
  have hkeys : (es.toList.map (·.key)).Nodup := by
    have e : es.toList.map (·.key) = (m.map (·.1)).map (fun k => KEnc.kv k) := by
      have := congrArg (List.map Prod.fst) he
      simpa [List.map_map, Function.comp_def] using this
    rw [e]
    exact List.pairwise_map.2 (hn.imp fun hne e => hne (KEnc.kinj _ _ e))
  have hborn : (es.toList.map (·.born)).Nodup := List.pairwise_map.2 (hp.imp fun h => Nat.ne_of_lt h)
  refine ⟨.map ((es.toList.map (Go.WideElems.rg P k (fun _ => some (.nil, [])))).foldr DataW.insert []), ⟨es, clock, hb, ⟨by omega, ⟨hc, hborn, hkeys⟩, fun x hx => ?_⟩, by omega, rfl⟩, ?_, ?_⟩
  · obtain ⟨s, h1, h2⟩ := hkey x hx
    exact ⟨_, Go.WideElems.rd_mk (key := x.key) (val := x.val) (born := x.born) (by rw [h1]; exact Go.WideMaps.keyOf_string_mk hk h2) rfl⟩
  · rw [Maps.size_eq, length_sorted]; simpa using hlen
  · show (List.map _ _).length = _
    rw [List.length_map, length_sorted]; simpa using hlen
set_option maxRecDepth 100000 in
set_option maxHeartbeats 1000000 in
/-- Names: as many as there are. -/
theorem names_any (p : Addr) (r : Nat) (H : MHouse) (w : World) (hH : HouseIs w p r H) (hk : ∀ q ∈ H, q.1.size ≤ maxLen) (hl : H.length ≤ 1000000) :
    Calls Try.prog 63 #[.pointer (some p)] w fun e w' => ∃ (A : Option Addr) (c : Nat), e = .returned (.slice A H.length c) ∧ Bel w w' := by
  obtain ⟨hc, m, hm, hr⟩ := hH
  have hml := hr.len
  have hkm : ∀ q ∈ m, q.1.size ≤ maxLen := fun q hq => by
    have h1 : q.1 ∈ m.map (·.1) := List.mem_map.2 ⟨q, hq, rfl⟩
    rw [hr.keys, List.mem_map] at h1
    obtain ⟨q2, h2, h3⟩ := h1
    rw [← h3]
    exact hk q2 h2
  obtain ⟨D0, hown, hsz, hsk⟩ := own_of_map (P := Try.prog) (k := 9) Try.underlying9 hm hkm (by unfold maxLen; omega)
  have HOWN := Lib.hid hown; have HSZ := Lib.hid hsz; have HSK := Lib.hid hsk; have HML := Lib.hid hml
  clear hm hr hkm hown hsz hsk hk hml
  go_enter Try.func63, Try.ntmps63
  go_wp2_with fail
  refine (callsIn_wide.1 (Try.maps_Keys_97 (some r) w)).mono ?_
  rintro _ _ ⟨rfl, rfl⟩
  go_wp2_with fail
  refine (callsIn_wide.1 (Try.slices_Sorted_keys_96_97 r m.length D0 _ w HOWN.out (by rw [HSZ.out]; have := HML.out; unfold maxLen; omega) (by rw [HSZ.out]; have := HML.out; omega))).mono ?_
  rintro _ w2 ⟨v, ss, rfl, hS, hrow, _, hb⟩
  have hlen : ss.length = H.length := by rw [hS.length_eq, HSK.out, HML.out]
  rw [hlen] at hrow
  obtain ⟨A, c, rfl⟩ : ∃ (A : Option Addr) (c : Nat), v = .slice A H.length c := by
    rcases hrow.2 with ⟨h1, h2⟩ | ⟨g, cap, cur, h1, _⟩
    · exact ⟨none, 0, by rw [h1, h2]⟩
    · exact ⟨_, _, h1⟩
  have HB := Lib.hid (show Bel w w2 from Bel.trans ((Bel.refl w).alloc _) hb)
  clear hrow hS hb hlen
  go_wp2_with fail
  go_ret
  exact ⟨A, c, rfl, HB.out⟩
end Go.Proofs.Yteockodnfempfaa
