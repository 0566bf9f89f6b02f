/- AppApart: what is told of the house and the registry is a clone. Conditions: those named in each theorem. -/
import Derived.Shelf.SlIter.Nil
import Derived.Shelf.SortM.Plain
import Derived.Shelf.SortM.SortNone
import Derived.Test.YteockodnfempfaaGreatDoorP1
import Derived.Test.YteockodnfempfaaGreatDoorProg
import Derived.Test.YteockodnfempfaaGreatDoorP8
import Derived.StringKeys
import Derived.Test.YteockodnfempfaaGreatDoorP9
import Derived.Test.YteockodnfempfaaGreatDoorP11
/- The library's functions at this program: which is which; printed by the kit's lay-plain. -/
namespace Go.Proofs.YteockodnfempfaaGreatDoor
open Go Go.Proofs
open Go.Shelf
def Tryz.keysSale_ren : Go.Shelf.Ren := ⟨fun | 7 => 60 | 10 => 84 | n => n, fun | 23 => 102 | 26 => 9 | 3 => 106 | 28 => 100 | 0 => 0 | 27 => 99 | 33 => 114 | 4 => 4 | n => n, fun | n => n⟩
theorem Tryz.keysSale : Go.Proofs.SlLaysZ.n7 Tryz.prog Tryz.keysSale_ren := {
  mixed := by kernel_rfl
  f7 := ⟨Tryz.f60.name, by decide, Tryz.func60.trans (congrArg some (by kernel_rfl))⟩
  f10 := ⟨Tryz.f84.name, by decide, Tryz.func84.trans (congrArg some (by kernel_rfl))⟩
  t0 := Tryz.underlying0
  a0 := Tryz.isAgg0
  z0 := Tryz.sizeOf0
  v0 := Tryz.zeroValue0
  t4 := Tryz.underlying4
  a4 := Tryz.isAgg4
  z4 := Tryz.sizeOf4
  v4 := Tryz.zeroValue4
  t23 := Tryz.underlying102
  a23 := Tryz.isAgg102
  z23 := Tryz.sizeOf102
  v23 := Tryz.zeroValue102
  t26 := Tryz.underlying9
  a26 := Tryz.isAgg9
  z26 := Tryz.sizeOf9
  v26 := Tryz.zeroValue9
  t27 := Tryz.underlying99
  a27 := Tryz.isAgg99
  z27 := Tryz.sizeOf99
  v27 := Tryz.zeroValue99
  t28 := Tryz.underlying100
  a28 := Tryz.isAgg100
  z28 := Tryz.sizeOf100
  v28 := Tryz.zeroValue100
  t33 := Tryz.underlying114
  a33 := Tryz.isAgg114
  z33 := Tryz.sizeOf114
  v33 := Tryz.zeroValue114 }
def Tryz.keysInt_ren : Go.Shelf.Ren := ⟨fun | 7 => 61 | 10 => 85 | n => n, fun | 23 => 110 | 26 => 9 | 3 => 3 | 28 => 100 | 0 => 0 | 27 => 99 | 33 => 114 | 4 => 4 | n => n, fun | n => n⟩
theorem Tryz.keysInt : Go.Proofs.SlLaysZ.n7 Tryz.prog Tryz.keysInt_ren := {
  mixed := by kernel_rfl
  f7 := ⟨Tryz.f61.name, by decide, Tryz.func61.trans (congrArg some (by kernel_rfl))⟩
  f10 := ⟨Tryz.f85.name, by decide, Tryz.func85.trans (congrArg some (by kernel_rfl))⟩
  t0 := Tryz.underlying0
  a0 := Tryz.isAgg0
  z0 := Tryz.sizeOf0
  v0 := Tryz.zeroValue0
  t4 := Tryz.underlying4
  a4 := Tryz.isAgg4
  z4 := Tryz.sizeOf4
  v4 := Tryz.zeroValue4
  t23 := Tryz.underlying110
  a23 := Tryz.isAgg110
  z23 := Tryz.sizeOf110
  v23 := Tryz.zeroValue110
  t26 := Tryz.underlying9
  a26 := Tryz.isAgg9
  z26 := Tryz.sizeOf9
  v26 := Tryz.zeroValue9
  t27 := Tryz.underlying99
  a27 := Tryz.isAgg99
  z27 := Tryz.sizeOf99
  v27 := Tryz.zeroValue99
  t28 := Tryz.underlying100
  a28 := Tryz.isAgg100
  z28 := Tryz.sizeOf100
  v28 := Tryz.zeroValue100
  t33 := Tryz.underlying114
  a33 := Tryz.isAgg114
  z33 := Tryz.sizeOf114
  v33 := Tryz.zeroValue114 }
def Tryz.sortedStr_ren : Go.Shelf.Ren := ⟨fun | 6 => 59 | 8 => 82 | 9 => 83 | 11 => 97 | 13 => 87 | 12 => 98 | 23 => 107 | 24 => 108 | 14 => 115 | 15 => 116 | 16 => 117 | 17 => 118 | 18 => 119 | 19 => 120 | 20 => 121 | 21 => 122 | 22 => 123 | 25 => 139 | 26 => 125 | 27 => 126 | 28 => 140 | 29 => 141 | 30 => 89 | 31 => 153 | n => n, fun | 26 => 9 | 28 => 100 | 24 => 48 | 0 => 0 | 3 => 3 | 37 => 147 | 48 => 164 | 50 => 26 | 4 => 4 | 40 => 158 | 39 => 157 | 45 => 66 | 5 => 5 | 9 => 9 | 51 => 176 | 55 => 180 | 57 => 193 | 58 => 194 | 33 => 114 | n => n, fun | n => n⟩
theorem Tryz.sortedStr : Go.Proofs.SlLaysZ.n6 Tryz.prog Tryz.sortedStr_ren := {
  mixed := by kernel_rfl
  f6 := ⟨Tryz.f59.name, by decide, Tryz.func59.trans (congrArg some (by kernel_rfl))⟩
  f8 := ⟨Tryz.f82.name, by decide, Tryz.func82.trans (congrArg some (by kernel_rfl))⟩
  f11 := ⟨Tryz.f97.name, by decide, Tryz.func97.trans (congrArg some (by kernel_rfl))⟩
  t0 := Tryz.underlying0
  a0 := Tryz.isAgg0
  z0 := Tryz.sizeOf0
  v0 := Tryz.zeroValue0
  t24 := Tryz.underlying48
  a24 := Tryz.isAgg48
  z24 := Tryz.sizeOf48
  v24 := Tryz.zeroValue48
  t26 := Tryz.underlying9
  a26 := Tryz.isAgg9
  z26 := Tryz.sizeOf9
  v26 := Tryz.zeroValue9
  t28 := Tryz.underlying100
  a28 := Tryz.isAgg100
  z28 := Tryz.sizeOf100
  v28 := Tryz.zeroValue100
  i26 := by kernel_rfl }
def Tryz.sortStr_ren : Go.Shelf.Ren := ⟨fun | 6 => 83 | 8 => 87 | 9 => 98 | 19 => 107 | 20 => 108 | 21 => 115 | 22 => 116 | 23 => 117 | 24 => 118 | 25 => 119 | 26 => 120 | 27 => 121 | 28 => 122 | 29 => 123 | 36 => 139 | 31 => 125 | 32 => 126 | 37 => 140 | 38 => 141 | 39 => 89 | 41 => 153 | n => n, fun | 27 => 48 | 29 => 9 | 3 => 3 | 32 => 147 | 26 => 48 | 0 => 0 | 44 => 164 | 46 => 26 | 4 => 4 | 36 => 158 | 35 => 157 | 41 => 66 | 5 => 5 | 9 => 9 | 53 => 176 | 57 => 180 | 63 => 193 | 64 => 194 | n => n, fun | n => n⟩
theorem Tryz.sortStr : Go.Proofs.SlLaysM.n6 Tryz.prog Tryz.sortStr_ren := {
  mixed := by kernel_rfl
  f6 := ⟨Tryz.f83.name, by decide, Tryz.func83.trans (congrArg some (by kernel_rfl))⟩
  f8 := Tryz.func87.trans (congrArg some (by kernel_rfl))
  f9 := ⟨Tryz.f98.name, by decide, Tryz.func98.trans (congrArg some (by kernel_rfl))⟩
  f19 := Tryz.func107.trans (congrArg some (by kernel_rfl))
  f20 := Tryz.func108.trans (congrArg some (by kernel_rfl))
  f21 := ⟨Tryz.f115.name, by decide, Tryz.func115.trans (congrArg some (by kernel_rfl))⟩
  f22 := ⟨Tryz.f116.name, by decide, Tryz.func116.trans (congrArg some (by kernel_rfl))⟩
  f23 := ⟨Tryz.f117.name, by decide, Tryz.func117.trans (congrArg some (by kernel_rfl))⟩
  f24 := ⟨Tryz.f118.name, by decide, Tryz.func118.trans (congrArg some (by kernel_rfl))⟩
  f25 := ⟨Tryz.f119.name, by decide, Tryz.func119.trans (congrArg some (by kernel_rfl))⟩
  f26 := ⟨Tryz.f120.name, by decide, Tryz.func120.trans (congrArg some (by kernel_rfl))⟩
  f27 := ⟨Tryz.f121.name, by decide, Tryz.func121.trans (congrArg some (by kernel_rfl))⟩
  f28 := ⟨Tryz.f122.name, by decide, Tryz.func122.trans (congrArg some (by kernel_rfl))⟩
  f29 := ⟨Tryz.f123.name, by decide, Tryz.func123.trans (congrArg some (by kernel_rfl))⟩
  f31 := Tryz.func125.trans (congrArg some (by kernel_rfl))
  f32 := Tryz.func126.trans (congrArg some (by kernel_rfl))
  f36 := ⟨Tryz.f139.name, by decide, Tryz.func139.trans (congrArg some (by kernel_rfl))⟩
  f37 := ⟨Tryz.f140.name, by decide, Tryz.func140.trans (congrArg some (by kernel_rfl))⟩
  f38 := ⟨Tryz.f141.name, by decide, Tryz.func141.trans (congrArg some (by kernel_rfl))⟩
  f39 := ⟨Tryz.f89.name, by decide, Tryz.func89.trans (congrArg some (by kernel_rfl))⟩
  f41 := ⟨Tryz.f153.name, by decide, Tryz.func153.trans (congrArg some (by kernel_rfl))⟩
  t0 := Tryz.underlying0
  a0 := Tryz.isAgg0
  z0 := Tryz.sizeOf0
  v0 := Tryz.zeroValue0
  t3 := Tryz.underlying3
  a3 := Tryz.isAgg3
  z3 := Tryz.sizeOf3
  v3 := Tryz.zeroValue3
  t4 := Tryz.underlying4
  a4 := Tryz.isAgg4
  z4 := Tryz.sizeOf4
  v4 := Tryz.zeroValue4
  t5 := Tryz.underlying5
  a5 := Tryz.isAgg5
  z5 := Tryz.sizeOf5
  v5 := Tryz.zeroValue5
  t9 := Tryz.underlying9
  a9 := Tryz.isAgg9
  z9 := Tryz.sizeOf9
  v9 := Tryz.zeroValue9
  t26 := Tryz.underlying48
  a26 := Tryz.isAgg48
  z26 := Tryz.sizeOf48
  v26 := Tryz.zeroValue48
  t27 := Tryz.underlying48
  a27 := Tryz.isAgg48
  z27 := Tryz.sizeOf48
  v27 := Tryz.zeroValue48
  t29 := Tryz.underlying9
  a29 := Tryz.isAgg9
  z29 := Tryz.sizeOf9
  v29 := Tryz.zeroValue9
  t32 := Tryz.underlying147
  a32 := Tryz.isAgg147
  z32 := Tryz.sizeOf147
  v32 := Tryz.zeroValue147
  t35 := Tryz.underlying157
  a35 := Tryz.isAgg157
  z35 := Tryz.sizeOf157
  v35 := Tryz.zeroValue157
  t36 := Tryz.underlying158
  a36 := Tryz.isAgg158
  z36 := Tryz.sizeOf158
  v36 := Tryz.zeroValue158
  t41 := Tryz.underlying66
  a41 := Tryz.isAgg66
  z41 := Tryz.sizeOf66
  v41 := Tryz.zeroValue66
  t44 := Tryz.underlying164
  a44 := Tryz.isAgg164
  z44 := Tryz.sizeOf164
  v44 := Tryz.zeroValue164
  t46 := Tryz.underlying26
  a46 := Tryz.isAgg26
  z46 := Tryz.sizeOf26
  v46 := Tryz.zeroValue26
  t53 := Tryz.underlying176
  a53 := Tryz.isAgg176
  z53 := Tryz.sizeOf176
  v53 := Tryz.zeroValue176
  t57 := Tryz.underlying180
  a57 := Tryz.isAgg180
  z57 := Tryz.sizeOf180
  v57 := Tryz.zeroValue180
  t63 := Tryz.underlying193
  a63 := Tryz.isAgg193
  z63 := Tryz.sizeOf193
  v63 := Tryz.zeroValue193
  t64 := Tryz.underlying194
  a64 := Tryz.isAgg194
  z64 := Tryz.sizeOf194
  v64 := Tryz.zeroValue194 }
end Go.Proofs.YteockodnfempfaaGreatDoor
/- The names of a house and the items of a registry, sorted. Conditions: those named in each theorem. -/
namespace Go.Proofs.YteockodnfempfaaGreatDoor
open Go Go.RowKit Go.Gv Go.Sort Go.Proofs Go.Maps Go.MapKept Go.ChangeMaps Go.Shelf

theorem Tryz.sorts96 (m : Nat) : AnyZ.SortsIn Tryz.prog Tryz.sortedStr_ren Fence.wide m :=
  ⟨fun blk off cap ss W hH hblk hsz => callsIn_wide.2 (AnyM.slices_Sort_string Tryz.sortStr blk off cap ss W hH hblk hsz),
   fun p cap W => callsIn_wide.2 (AnyM.slices_Sort_string_none Tryz.sortStr p cap W)⟩

theorem Tryz.maps_Keys_97 (mb : Option Nat) (W : World) : CallsIn Fence.wide 5 Tryz.prog 60 #[.map mb] W fun e w' => e = .returned (.func (.func 84) #[] #[.pointer (some ⟨W.heap.size, 0, none⟩)]) ∧ w' = W.alloc (.cells #[.map mb] 102) :=
  AnyZ.keys_in Tryz.keysSale Fence.wide 5 trivial rfl mb W

set_option maxHeartbeats 1000000 in
theorem Tryz.slices_Sorted_keys_96_97 {H : Type} (b nn : Nat) (D0 : DataW H) (R : Value → Option (DataW H × List MemPlace)) (w : World) (hown : w.ownsMap Tryz.prog 9 R b nn D0) (hmax : Maps.size D0 ≤ maxLen) (hbytes : Maps.size D0 * 16 ≤ 140737488355328) :
    CallsIn Fence.wide 5 Tryz.prog 59 #[.func (.func 84) #[] #[.pointer (some ⟨w.heap.size, 0, none⟩)]] (w.alloc (.cells #[.map (some b)] 102)) fun e w' => ∃ (v : Value) (ss : List (List UInt8)), e = .returned v ∧ ss.Perm (strKeys D0) ∧
      w'.ownsRow (w.alloc (.cells #[.map (some b)] 102)).heap.size 9 1 v ss.length ((ss.mergeSort (fun x y => decide (x ≤ y))).map encStr) ∧ (v = .slice none 0 0 ↔ ss = []) ∧ Below (w.alloc (.cells #[.map (some b)] 102)).heap.size (w.alloc (.cells #[.map (some b)] 102)) w' := by
  have hbl := hown.lt
  have hseq : SeqGives Fence.wide 2 Tryz.prog 84 #[.pointer (some ⟨w.heap.size, 0, none⟩)] encStr (fun ss => ss.Perm (strKeys D0)) (Maps.size D0) (w.alloc (.cells #[.map (some b)] 102)) :=
    AnyZ.keys_gives (ρ := Tryz.keysSale_ren) { Tryz.keysSale with } Fence.wide _ trivial rfl (by omega) w.heap.size b nn D0 _ (by simp) (by simp) (by
      obtain ⟨es, clock, hb, Ft, hs, hD⟩ := hown
      exact ⟨es, clock, (Below.heap_alloc _ _ b hbl).trans hb, Ft, hs, hD⟩)
  exact AnyZ.sorted_in Tryz.sortedStr Fence.wide 5 trivial trivial trivial trivial rfl (by omega) (Tryz.sorts96 _) (enters_of Tryz.func83 (by kernel_rfl) rfl) 84 #[.pointer (some ⟨w.heap.size, 0, none⟩)] trivial (enters_of Tryz.func84 (by kernel_rfl) rfl) _ _ hmax hbytes _ hseq

theorem Tryz.maps_Keys_int (mb : Option Nat) (W : World) : CallsIn Fence.wide 5 Tryz.prog 61 #[.map mb] W fun e w' => e = .returned (.func (.func 85) #[] #[.pointer (some ⟨W.heap.size, 0, none⟩)]) ∧ w' = W.alloc (.cells #[.map mb] 110) :=
  AnyZ.keys_in Tryz.keysInt Fence.wide 5 trivial rfl mb W

set_option maxHeartbeats 1000000 in
theorem Tryz.slices_Sorted_keys_int {H : Type} (b nn : Nat) (D0 : DataW H) (R : Value → Option (DataW H × List MemPlace)) (w : World) (hown : w.ownsMap Tryz.prog 9 R b nn D0) (hmax : Maps.size D0 ≤ maxLen) (hbytes : Maps.size D0 * 16 ≤ 140737488355328) :
    CallsIn Fence.wide 5 Tryz.prog 59 #[.func (.func 85) #[] #[.pointer (some ⟨w.heap.size, 0, none⟩)]] (w.alloc (.cells #[.map (some b)] 110)) fun e w' => ∃ (v : Value) (ss : List (List UInt8)), e = .returned v ∧ ss.Perm (strKeys D0) ∧
      w'.ownsRow (w.alloc (.cells #[.map (some b)] 110)).heap.size 9 1 v ss.length ((ss.mergeSort (fun x y => decide (x ≤ y))).map encStr) ∧ (v = .slice none 0 0 ↔ ss = []) ∧ Below (w.alloc (.cells #[.map (some b)] 110)).heap.size (w.alloc (.cells #[.map (some b)] 110)) w' := by
  have hbl := hown.lt
  have hseq : SeqGives Fence.wide 2 Tryz.prog 85 #[.pointer (some ⟨w.heap.size, 0, none⟩)] encStr (fun ss => ss.Perm (strKeys D0)) (Maps.size D0) (w.alloc (.cells #[.map (some b)] 110)) :=
    AnyZ.keys_gives (ρ := Tryz.keysInt_ren) { Tryz.keysInt with } Fence.wide _ trivial rfl (by omega) w.heap.size b nn D0 _ (by simp) (by simp) (by
      obtain ⟨es, clock, hb, Ft, hs, hD⟩ := hown
      exact ⟨es, clock, (Below.heap_alloc _ _ b hbl).trans hb, Ft, hs, hD⟩)
  exact AnyZ.sorted_in Tryz.sortedStr Fence.wide 5 trivial trivial trivial trivial rfl (by omega) (Tryz.sorts96 _) (enters_of Tryz.func83 (by kernel_rfl) rfl) 85 #[.pointer (some ⟨w.heap.size, 0, none⟩)] trivial (enters_of Tryz.func85 (by kernel_rfl) rfl) _ _ hmax hbytes _ hseq

def keyBytes : Value → List UInt8
  | .string s => s.data.toList
  | _ => []
theorem own_of_mapK {V : Type} [VEnc V] {P : Program} {k : TypeId} (hk : P.underlying k = some .string) {w : World} {r : Nat} {m : List (ByteArray × V)} (hm : mapAt ByteArray V w r = some m) (hs : ∀ p ∈ m, p.1.size ≤ maxLen) (hl : m.length ≤ maxLen) :
    ∃ D0 : DataW Unit, w.ownsMap P k (fun _ => some (.nil, [])) r m.length D0 ∧ Maps.size D0 = m.length ∧ (strKeys D0).Perm (m.map fun p => p.1.data.toList) := by
  obtain ⟨es, clock, hb, he, hn, hp, hc⟩ := mapAt_iff.1 hm
  have hlen : es.size = m.length := by have := congrArg List.length he; simpa using this
  have hkey : ∀ x ∈ es.toList, ∃ s : ByteArray, x.key = .string s ∧ s.size ≤ maxLen := by
    intro x hx
    have h1 : (x.key, x.val) ∈ es.toList.map (fun e => (e.key, e.val)) := List.mem_map.2 ⟨x, hx, rfl⟩
    rw [he, List.mem_map] at h1
    obtain ⟨p, hp1, hp2⟩ := h1
    injection hp2 with h2 _
    exact ⟨p.1, h2.symm, hs p hp1⟩
  have hkeys : (es.toList.map (·.key)).Nodup := by
    have e : es.toList.map (·.key) = (m.map (·.1)).map (fun k => KEnc.kv k) := by
      have := congrArg (List.map Prod.fst) he
      simpa [List.map_map, Function.comp_def] using this
    rw [e]
    exact List.pairwise_map.2 (hn.imp fun hne e => hne (KEnc.kinj _ _ e))
  have hborn : (es.toList.map (·.born)).Nodup := List.pairwise_map.2 (hp.imp fun h => Nat.ne_of_lt h)
  have hrg : ∀ x ∈ es.toList, strOf (Go.WideElems.rg P k (fun _ => some ((.nil : DataW Unit), [])) x).1 = keyBytes x.key := by
    intro x hx
    obtain ⟨s, h1, h2⟩ := hkey x hx
    have := Go.WideElems.rd_mk (P := P) (k := k) (R := fun _ => some ((.nil : DataW Unit), [])) (key := x.key) (val := x.val) (born := x.born) (by rw [h1]; exact Go.WideMaps.keyOf_string_mk hk h2) rfl
    unfold Go.WideElems.rg
    rw [this, h1]
    rfl
  refine ⟨.map ((es.toList.map (Go.WideElems.rg P k (fun _ => some (.nil, [])))).foldr DataW.insert []), ⟨es, clock, hb, ⟨by omega, ⟨hc, hborn, hkeys⟩, fun x hx => ?_⟩, by omega, rfl⟩, ?_, ?_⟩
  · obtain ⟨s, h1, h2⟩ := hkey x hx
    exact ⟨_, Go.WideElems.rd_mk (key := x.key) (val := x.val) (born := x.born) (by rw [h1]; exact Go.WideMaps.keyOf_string_mk hk h2) rfl⟩
  · rw [Maps.size_eq, length_sorted]; simpa using hlen
  · show (List.map _ _).Perm _
    refine ((Go.WideShapes.sorted_perm _).map _).trans ?_
    rw [List.map_map]
    have e1 : es.toList.map ((fun p => strOf p.1) ∘ Go.WideElems.rg P k (fun _ => some ((.nil : DataW Unit), []))) = es.toList.map fun x => keyBytes x.key := List.map_congr_left fun x hx => hrg x hx
    have e2 : (es.toList.map fun x => keyBytes x.key) = m.map fun p => p.1.data.toList := by
      have := congrArg (List.map fun q => keyBytes q.1) he
      rw [List.map_map, List.map_map] at this
      exact this
    rw [e1, e2]
theorem toList_eq (s : ByteArray) : s.toList = s.data.toList := ByteArray.toList_eq s
def leT (x y : List UInt8) : Bool := decide (x ≤ y)
/-- Texts, sorted. -/
def textsOf (K : List ByteArray) : List ByteArray := ((K.map fun s => s.data.toList).mergeSort leT).map fun l => ⟨l.toArray⟩
theorem leT_sort {ss : List (List UInt8)} {K : List ByteArray} (h : ss.Perm (K.map fun s => s.data.toList)) : ss.mergeSort leT = (textsOf K).map fun s => s.data.toList := by
  have h1 : ss.mergeSort leT = (K.map fun s => s.data.toList).mergeSort leT := by
    have t : ∀ a b c : List UInt8, leT a b → leT b c → leT a c := fun a b c h1 h2 => by
      simp only [leT, decide_eq_true_eq] at *
      exact List.le_trans h1 h2
    have tt : ∀ a b : List UInt8, leT a b || leT b a := fun a b => by
      simp only [leT, Bool.or_eq_true, decide_eq_true_eq]
      exact List.le_total a b
    refine List.Perm.eq_of_pairwise (le := fun a b => leT a b = true) ?_ (List.pairwise_mergeSort t tt ss) (List.pairwise_mergeSort t tt _) ((List.mergeSort_perm ss leT).trans (h.trans (List.mergeSort_perm _ leT).symm))
    intro a b _ _ h1 h2
    simp only [leT, decide_eq_true_eq] at h1 h2
    exact List.le_antisymm h1 h2
  rw [h1]
  unfold textsOf
  rw [List.map_map]
  conv => lhs; rw [← List.map_id (List.mergeSort _ _)]
  apply List.map_congr_left
  intro x _
  simp
theorem textsOf_len (K : List ByteArray) : (textsOf K).length = K.length := by unfold textsOf; rw [List.length_map, List.length_mergeSort, List.length_map]
theorem strs_flat : ∀ (l : List ByteArray), (l.map StrV.mk).flatMap Enc.enc = (l.map fun s => s.data.toList).map encStr
  | [] => rfl
  | s :: l => by
    rw [List.map_cons, List.flatMap_cons, strs_flat l, List.map_cons, List.map_cons]
    have : (Enc.enc (⟨s⟩ : StrV)) = [encStr s.data.toList] := by
      show [Value.string s] = [Value.string ⟨s.data.toList.toArray⟩]
      simp
    rw [this]; rfl
end Go.Proofs.YteockodnfempfaaGreatDoor
/- What Names and Items return: the names, sorted. Conditions: those named in each theorem. -/
namespace Go.Proofs.YteockodnfempfaaGreatDoor
open Go Go.RowKit Go.Gv Go.Sort Go.Proofs Go.Maps Go.MapKept Go.ChangeMaps Go.Shelf

set_option maxRecDepth 100000 in
set_option maxHeartbeats 1000000 in
theorem names_all (p : Addr) (r : Nat) (H : MHouse) (w : World) (hH : HouseIs w p r H) (hk : ∀ q ∈ H, q.1.size ≤ maxLen) (hl : H.length ≤ 1000000) :
    Calls Tryz.prog 26 #[.pointer (some p)] w fun e w' => ∃ v, e = .returned v ∧ OwnS w' w.heap.size 9 v ((textsOf (H.map (·.1))).map StrV.mk) ∧ Bel w w' := by
  obtain ⟨hc, m, hm, hr⟩ := hH
  have hml := hr.len
  have hkm : ∀ q ∈ m, q.1.size ≤ maxLen := fun q hq => by
    have h1 : q.1 ∈ m.map (·.1) := List.mem_map.2 ⟨q, hq, rfl⟩
    rw [hr.keys, List.mem_map] at h1
    obtain ⟨q2, h2, h3⟩ := h1
    rw [← h3]
    exact hk q2 h2
  obtain ⟨D0, hown, hsz, hsk⟩ := own_of_mapK (P := Tryz.prog) (k := 9) Tryz.underlying9 hm hkm (by unfold maxLen; omega)
  have hkeys : (m.map fun p => p.1.data.toList) = (H.map (·.1)).map fun s => s.data.toList := by
    have := congrArg (List.map fun k : ByteArray => k.data.toList) hr.keys
    rw [List.map_map] at this
    exact this
  rw [hkeys] at hsk
  have HOWN := Lib.hid hown; have HSZ := Lib.hid hsz; have HSK := Lib.hid hsk; have HML := Lib.hid hml
  clear hm hr hkm hown hsz hsk hk hml
  go_enter Tryz.func26, Tryz.ntmps26
  go_wp2_with fail
  refine (callsIn_wide.1 (Tryz.maps_Keys_97 (some r) w)).mono ?_
  rintro _ _ ⟨rfl, rfl⟩
  go_wp2_with fail
  refine (callsIn_wide.1 (Tryz.slices_Sorted_keys_96_97 r m.length D0 _ w HOWN.out (by rw [HSZ.out]; have := HML.out; unfold maxLen; omega) (by rw [HSZ.out]; have := HML.out; omega))).mono ?_
  rintro _ w2 ⟨v, ss, rfl, hS, hrow, _, hb⟩
  have hsort := leT_sort (hS.trans HSK.out)
  have hrow2 : OwnS w2 w.heap.size 9 v ((textsOf (H.map (·.1))).map StrV.mk) := by
    have e1 : ((textsOf (H.map (·.1))).map StrV.mk).flatMap Enc.enc = (ss.mergeSort (fun x y => decide (x ≤ y))).map encStr := by
      rw [show (ss.mergeSort (fun x y => decide (x ≤ y))) = (textsOf (H.map (·.1))).map fun s => s.data.toList from hsort]
      exact strs_flat _
    have e2 : ((textsOf (H.map (·.1))).map StrV.mk).length = ss.length := by
      have := congrArg List.length hsort
      rw [List.length_mergeSort, List.length_map] at this
      rw [List.length_map]; exact this.symm
    have h3 : OwnS w2 (w.alloc (.cells #[.map (some r)] 102)).heap.size 9 v ((textsOf (H.map (·.1))).map StrV.mk) := by
      unfold OwnS
      rw [e1, e2]
      exact hrow
    exact h3.mono (by simp)
  have HB := Lib.hid (show Bel w w2 from Bel.trans ((Bel.refl w).alloc _) hb)
  have HRW := Lib.hid hrow2
  clear hrow hS hb hsort hrow2
  go_wp2_with fail
  go_ret
  exact ⟨v, rfl, HRW.out, HB.out⟩
set_option maxRecDepth 100000 in
set_option maxHeartbeats 1000000 in
theorem items_all (p : Addr) (r : Nat) (H : MReg) (w : World) (hH : RegIs w p r H) (hk : ∀ q ∈ H, q.1.size ≤ maxLen) (hl : H.length ≤ 1000000) :
    Calls Tryz.prog 27 #[.pointer (some p)] w fun e w' => ∃ v, e = .returned v ∧ OwnS w' w.heap.size 9 v ((textsOf (H.map (·.1))).map StrV.mk) ∧ Bel w w' := by
  obtain ⟨hc, hm⟩ := hH
  have hr : H = H := rfl
  have hkm := hk
  have hml : H.length = H.length := rfl
  obtain ⟨D0, hown, hsz, hsk⟩ := own_of_mapK (P := Tryz.prog) (k := 9) Tryz.underlying9 hm hk (by unfold maxLen; omega)
  have hkeys : (H.map fun p => p.1.data.toList) = (H.map (·.1)).map fun s => s.data.toList := by rw [List.map_map]; rfl
  rw [hkeys] at hsk
  have HOWN := Lib.hid hown; have HSZ := Lib.hid hsz; have HSK := Lib.hid hsk; have HML := Lib.hid hml
  clear hm hr hkm hown hsz hsk hk hml
  go_enter Tryz.func27, Tryz.ntmps27
  go_wp2_with fail
  refine (callsIn_wide.1 (Tryz.maps_Keys_int (some r) w)).mono ?_
  rintro _ _ ⟨rfl, rfl⟩
  go_wp2_with fail
  refine (callsIn_wide.1 (Tryz.slices_Sorted_keys_int r H.length D0 _ w HOWN.out (by rw [HSZ.out]; have := HML.out; unfold maxLen; omega) (by rw [HSZ.out]; have := HML.out; omega))).mono ?_
  rintro _ w2 ⟨v, ss, rfl, hS, hrow, _, hb⟩
  have hsort := leT_sort (hS.trans HSK.out)
  have hrow2 : OwnS w2 w.heap.size 9 v ((textsOf (H.map (·.1))).map StrV.mk) := by
    have e1 : ((textsOf (H.map (·.1))).map StrV.mk).flatMap Enc.enc = (ss.mergeSort (fun x y => decide (x ≤ y))).map encStr := by
      rw [show (ss.mergeSort (fun x y => decide (x ≤ y))) = (textsOf (H.map (·.1))).map fun s => s.data.toList from hsort]
      exact strs_flat _
    have e2 : ((textsOf (H.map (·.1))).map StrV.mk).length = ss.length := by
      have := congrArg List.length hsort
      rw [List.length_mergeSort, List.length_map] at this
      rw [List.length_map]; exact this.symm
    have h3 : OwnS w2 (w.alloc (.cells #[.map (some r)] 110)).heap.size 9 v ((textsOf (H.map (·.1))).map StrV.mk) := by
      unfold OwnS
      rw [e1, e2]
      exact hrow
    exact h3.mono (by simp)
  have HB := Lib.hid (show Bel w w2 from Bel.trans ((Bel.refl w).alloc _) hb)
  have HRW := Lib.hid hrow2
  clear hrow hS hb hsort hrow2
  go_wp2_with fail
  go_ret
  exact ⟨v, rfl, HRW.out, HB.out⟩
end Go.Proofs.YteockodnfempfaaGreatDoor
/- What the app tells of its house and its registry: clones; the registry's keys are short. Conditions: those named in each theorem. -/
namespace Go.Proofs.YteockodnfempfaaGreatDoor
open Go Go.RowKit Go.Gv Go.Sort

set_option maxRecDepth 100000 in
set_option maxHeartbeats 1000000 in
theorem toldHouse_any (a g r p q kk : Nat) (M : MApp) (w : World) (hA : AppIs w a g r p q M kk) :
    Calls Tryz.prog 24 #[.pointer (some ⟨a, 0, none⟩)] w fun e w' => ∃ g' r' : Nat, e = .returned (.pointer (some ⟨g', 0, none⟩)) ∧ HouseIs w' ⟨g', 0, none⟩ r' M.house ∧ w.heap.size ≤ g' ∧ w.heap.size ≤ r' ∧ g' ≠ r' ∧ Bel w w' := by
  have at0 := hA.at0
  have HH := Lib.hid hA.house
  clear hA
  go_enter Tryz.func24, Tryz.ntmps24
  go_wp2_with fail
  refine (cloneHouse_any g r M.house w HH.out).mono ?_
  rintro _ w2 ⟨g2, r2, rfl, h1, h2, h3, h4, h5⟩
  have H1 := Lib.hid h1; have H5 := Lib.hid h5
  clear h1 h5
  go_wp2_with fail
  go_ret
  exact ⟨g2, r2, rfl, H1.out, h2, h3, h4, H5.out⟩
set_option maxRecDepth 100000 in
set_option maxHeartbeats 1000000 in
theorem toldReg_any (a g r p q kk : Nat) (M : MApp) (w : World) (hA : AppIs w a g r p q M kk) :
    Calls Tryz.prog 25 #[.pointer (some ⟨a, 0, none⟩)] w fun e w' => ∃ p' q' : Nat, e = .returned (.pointer (some ⟨p', 0, none⟩)) ∧ RegIs w' ⟨p', 0, none⟩ q' M.reg ∧ w.heap.size ≤ p' ∧ w.heap.size ≤ q' ∧ p' ≠ q' ∧ Bel w w' := by
  have at1 := hA.at1
  have HH := Lib.hid hA.reg
  clear hA
  go_enter Tryz.func25, Tryz.ntmps25
  go_wp2_with fail
  refine (cloneReg_any p q M.reg w HH.out).mono ?_
  rintro _ w2 ⟨g2, r2, rfl, h1, h2, h3, h4, h5⟩
  have H1 := Lib.hid h1; have H5 := Lib.hid h5
  clear h1 h5
  go_wp2_with fail
  go_ret
  exact ⟨g2, r2, rfl, H1.out, h2, h3, h4, H5.out⟩

/-- The registry's keys are no longer than m. -/
def RKey (m : Nat) (Q : MReg) : Prop := ∀ x ∈ Q, x.1.size ≤ m
theorem RKey.nil (m : Nat) : RKey m [] := by intro x hx; simp at hx
theorem RKey.set {m : Nat} {Q : MReg} (h : RKey m Q) {k : ByteArray} (v : Int) (hk : k.size ≤ m) : RKey m (mset Q k v) := by
  intro x hx
  unfold mset at hx
  split at hx
  · obtain ⟨y, hy, rfl⟩ := List.mem_map.1 hx
    split
    · exact hk
    · exact h y hy
  · rcases List.mem_append.1 hx with hx | hx
    · exact h x hx
    · rw [List.mem_singleton.1 hx]; exact hk
theorem RKey.reserve {m : Nat} {Q : MReg} (h : RKey m Q) {item : ByteArray} (client : Int) (hk : item.size ≤ m) : RKey m (reserveQ Q item client) := by
  unfold reserveQ
  split
  · exact h.set _ hk
  · exact h
theorem RKey.release {m : Nat} {Q : MReg} (h : RKey m Q) (item : ByteArray) (client : Int) : RKey m (releaseQ Q item client) := by
  unfold releaseQ
  split
  · exact fun x hx => h x (List.mem_filter.1 hx).1
  · exact h
theorem RKey.exec {m : Nat} {M : MApp} (h : RKey m M.reg) (who now : Int) (pl : ByteArray) (hm : pl.size ≤ m) : RKey m (execA M who now pl).2.reg := by
  have hw : (wd (wordsM pl) 1).size ≤ m := Nat.le_trans (wd_size pl 1) hm
  unfold execA doA openA bidA settleA
  repeat' split
  all_goals first | exact h | exact h.reserve _ hw | exact h.release _ _
end Go.Proofs.YteockodnfempfaaGreatDoor
/- AppApart: what is told of the house and the registry is a clone. Conditions: those named in each theorem. -/
namespace Go.Proofs.YteockodnfempfaaGreatDoor
open Go Go.RowKit Go.Gv Go.Sort

theorem textsOf_mem {K : List ByteArray} {s : ByteArray} (h : s ∈ textsOf K) : s ∈ K := by
  unfold textsOf at h
  obtain ⟨l, hl, rfl⟩ := List.mem_map.1 h
  rw [List.mem_mergeSort] at hl
  obtain ⟨t, ht, rfl⟩ := List.mem_map.1 hl
  simpa using ht
structure AP (w wr : World) (a g r p q : Nat) (M : MApp) (kk : Nat) : Prop where
  app : AppIs wr a g r p q M kk
  bel : Bel w wr
  far : ∀ k, footA a r q k → w.heap.size ≤ k
  key : RKey 1000 M.reg
theorem AP.step {w wr w' : World} {a g r p q kk : Nat} {M : MApp} (h : AP w wr a g r p q M kk) (hb : Bel wr w') : AP w w' a g r p q M kk := ⟨h.app.bel hb, h.bel.trans hb, h.far, h.key⟩
theorem AP.mono {w wr : World} {a g r p q kk j : Nat} {M : MApp} (h : AP w wr a g r p q M kk) (hj : kk ≤ j) : AP w wr a g r p q M j := ⟨h.app.mono hj, h.bel, h.far, h.key⟩
theorem AP.foot {w wr : World} {a g r p q kk : Nat} {M : MApp} (h : AP w wr a g r p q M kk) : ∀ k, footA a r q k → k < wr.heap.size := fun k hk => by
  have l1 := h.app.lt; have l2 := h.app.house.2.lt; have l3 := h.app.reg.ltr
  unfold footA at hk
  omega
theorem AP.low {w wr : World} {a g r p q kk : Nat} {M : MApp} (h : AP w wr a g r p q M kk) : a < wr.heap.size ∧ r < wr.heap.size ∧ q < wr.heap.size ∧ g < wr.heap.size ∧ p < wr.heap.size := by
  have l4 := World.block_lt_of_cell? wr _ h.app.house.1; have l5 := World.block_lt_of_cell? wr _ h.app.reg.1
  exact ⟨h.app.lt, h.app.house.2.lt, h.app.reg.ltr, l4, l5⟩
theorem AP.other {w wr w' : World} {a g r p q kk k0 B : Nat} {M : MApp} (h : AP w wr a g r p q M kk) (hN : NoBid wr k0) (hg : GX k0 wr w') (hB : B ≤ k0) (hl : a < B ∧ r < B ∧ q < B ∧ g < B ∧ p < B) (h0 : w.heap.size ≤ k0) : AP w w' a g r p q M kk := by
  have hc : Chg (fun k => k = k0) wr w' := Chg.of_grown hg fun k e => (Option.some.inj e).symm
  exact ⟨h.app.off (S := fun k => k = k0) (fun k (e : k = k0) => e ▸ hN) hc (by omega) (by omega) (by omega) (by omega) (by omega), Chg.bel2 h.bel hc (fun k e => by omega), h.far, h.key⟩
theorem AP.exec {w wr : World} {a g r p q kk : Nat} {M : MApp} (h : AP w wr a g r p q M kk) (x : GEntry) (B : Option Addr) (n c : Nat) (ys : List U8) (hL : LibIs w) (hy : Sl U8 wr wr.heap.size B n ys) (hB : ∀ ad, B = some ad → ¬ footA a r q ad.block) (hn : n ≤ 1000) (hk : kk ≤ 1000) :
    Calls Tryz.prog 12 #[.pointer (some ⟨a, 0, none⟩), x.val, .slice B n c] wr fun e w' => ∃ s M', e = .returned (.string s) ∧ AP w w' a g r p q M' (kk + 2) := by
  refine (exec_any w a g r p q kk M x B n c ys wr hL h.bel h.app h.far hy (fun _ => hB) (by omega) hk).mono ?_
  rintro e w2 ⟨rfl, hA, hc⟩
  have hl := hy.1
  exact ⟨_, _, rfl, hA, Chg.bel2 h.bel hc h.far, h.far, h.key.exec _ _ _ (by rw [bytesB_size]; omega)⟩

set_option maxRecDepth 100000 in
set_option maxHeartbeats 16000000 in
theorem apart_any (A : Option Addr) (n c : Nat) (xs : List GLaw19Act) (w : World) (hL : LibIs w) (hx : Sl GLaw19Act w w.heap.size A n xs) (hox : ∀ x ∈ xs, FitA x) (hn : n ≤ maxLen) :
    Calls Tryz.prog 6 #[.slice A n c] w fun e w' => e = .returned (.bool true) ∧ Bel w w' := by
  unfold maxLen at hn
  have HX := Lib.hid hx; have HOX := Lib.hid hox; have HL := Lib.hid hL
  clear hx hox hL
  go_enter Tryz.func6, Tryz.ntmps6
  go_wp2_with fail
  refine (newApp_any w).mono ?_
  rintro _ w1 ⟨a, g, r, p, q, rfl, hA, hF, hb⟩
  have HST := Lib.hid (show AP w w1 a g r p q M0 0 from ⟨hA, hb, fun k hk => (hF k).resolve_right (fun e => e (.inl hk)), RKey.nil _⟩)
  clear hA hF hb
  go_upto_block 0 with fail
  go_cut [4] (fun _ wx => ∃ (M : MApp) (j : Nat), j ≤ 24 ∧ Hid (AP w wx a g r p q M j))
  case first => as_aux_lemma =>
   go_wp2_with fail
   go_loopw [4] (fun iv wr => ∃ (k : Nat) (M : MApp), k ≤ n ∧ k ≤ 12 ∧ iv = .int .i64 k ∧ Hid (AP w wr a g r p q M (2 * k))) (fun iv _ => 13 - (intOf iv).toNat)
   case atStart => exact ⟨0, M0, by omega, by omega, rfl, HST⟩
   case round =>
     obtain ⟨k, M, hk, hk12, rfl, hst⟩ := hrel
     clear HST
     by_cases hcont : k < n ∧ k < 12
     · obtain ⟨hlt, hlt12⟩ := hcont
       obtain ⟨ad, x, rfl, _, hxk, hgx⟩ := (HX.out.stepB hst.out.bel).at_ (k := k) hlt
       have hfx := HOX.out x (List.mem_of_getElem? hxk)
       change get? GLaw19Act wr (ad.add (k * 4)) = some x at hgx
       have HFX := Lib.hid hfx
       have hlt2 : (k : Int) < (n : Int) := by omega
       have hlt3 : (k : Int) < 12 := by omega
       have hk0 : (0 : Int) ≤ (k : Int) := by omega
       have f2 := cell_off (by omega) (GLaw19Act.at_payload hgx)
       simp only [add_block] at f2
       clear hxk hfx
       by_cases hp : x.payload.size ≤ 100
       · have hp2 : (x.payload.size : Int) ≤ 100 := by omega
         go_upto_region 8 with fail
         refine wp_region_G GB [12] GB.rf (by kernel_rfl) ?_
         refine wpG_looks 3 13 [0,1,2,3,4,6,7,8,9,10] rfl GB.rf GB.tr (by kernel_rfl) (fun _ _ _ _ hd h => And.intro (hd ▸ And.left h) (And.right h)) rfl (by kernel_rfl) ?_
         intro ι W hne CW
         have k1 : ∀ z, get? GLaw19Act (W z) (ad.add (k * 4)) = some x := fun z => (CW.out z).get hgx
         have k2 : ∀ z, (W z).cell? ⟨ad.block, (ad.add (k * 4)).off + 2, none⟩ = some (.string x.payload) := fun z => (CW.out z).cell f2
         repeat (refine wpLooksG_step (fun K hK => ?_); go_simp; refine hK _ ?_; clear hK K)
         refine wpLooksG_nil ?_
         clear k1 k2 CW hne W ι f2 hgx
         refine wpG_two 5 11 _ _ rfl rfl (by kernel_rfl) rfl rfl ?_ ?_
         · intro wa hq K hK
           have hst := hst.out.step hq.undrew
           go_simp
           refine (entry_any x _ HFX.out).mono ?_
           rintro _ wb ⟨rfl, hb⟩
           refine hK _ _ (fun _ => hb) ?_
           have hst := hst.step hb
           clear hK K hb hq
           refine wpG_force 11 _ rfl (by kernel_rfl) rfl fun wc hq K hK => ?_
           have hst := hst.step hq
           obtain ⟨cy, wd, hcv, hs2, _, hb2⟩ := conv_bytes wc x.payload
           have hft := hst.foot
           have hst := hst.step hb2
           go_simp
           refine hK _ _ (fun _ => hb2) ?_
           clear hK K hq hcv
           refine wpG_force 12 _ rfl (by kernel_rfl) rfl fun we hq K hK => ?_
           have hst := hst.step hq
           go_simp
           refine (hst.exec (entryV x) _ _ cy _ HL.out (hs2.stepB hq) (fun ad e hf => by injection e with e; subst e; have := hft _ hf; simp at this) (by omega) (by omega)).mono ?_
           rintro _ wf ⟨s, M', rfl, hst⟩
           refine hK _ _ (fun h => absurd (by simp) h) ?_
           clear hK K hq hs2 hft hb2
           refine wpG_end (by kernel_rfl) (fun wn hwn => ?_) _
           have HST := Lib.hid (hst.step hwn)
           clear hst hwn
           go_wp2_with fail
           exact ⟨⟨k + 1, M', by omega, by omega, by go_num, HST⟩, by simp [intOf]; omega⟩
         · intro wa hq K hK
           have hst := hst.out.step hq.undrew
           obtain ⟨cy, wd, hcv, hs2, _, hb2⟩ := conv_bytes wa x.payload
           have hft := hst.foot
           have hst := hst.step hb2
           go_simp
           refine hK _ _ (fun _ => hb2) ?_
           clear hK K hq hcv
           refine wpG_force 5 _ rfl (by kernel_rfl) rfl fun wc hq K hK => ?_
           have hst := hst.step hq
           have hs3 := hs2.stepB hq
           go_simp
           refine (entry_any x _ HFX.out).mono ?_
           rintro _ wb ⟨rfl, hb⟩
           refine hK _ _ (fun _ => hb) ?_
           have hst := hst.step hb
           have hs3 := hs3.stepB hb
           clear hK K hb hq hs2
           refine wpG_force 12 _ rfl (by kernel_rfl) rfl fun we hq K hK => ?_
           have hst := hst.step hq
           go_simp
           refine (hst.exec (entryV x) _ _ cy _ HL.out (hs3.stepB hq) (fun ad e hf => by injection e with e; subst e; have := hft _ hf; simp at this) (by omega) (by omega)).mono ?_
           rintro _ wf ⟨s, M', rfl, hst⟩
           refine hK _ _ (fun h => absurd (by simp) h) ?_
           clear hK K hq hs3 hft hb2
           refine wpG_end (by kernel_rfl) (fun wn hwn => ?_) _
           have HST := Lib.hid (hst.step hwn)
           clear hst hwn
           go_wp2_with fail
           exact ⟨⟨k + 1, M', by omega, by omega, by go_num, HST⟩, by simp [intOf]; omega⟩
       · have hp2 : ¬ (x.payload.size : Int) ≤ 100 := by omega
         go_wp2_with fail
         exact ⟨⟨k + 1, M, by omega, by omega, by go_num, Lib.hid (hst.out.mono (by omega))⟩, by simp [intOf]; omega⟩
     · have hstop : (n : Int) ≤ (k : Int) ∨ ((k : Int) < (n : Int) ∧ 12 ≤ (k : Int)) := by omega
       rcases hstop with hs | ⟨hs, hs2⟩
       all_goals
       go_wp2_with fail
       go_meet
       exact ⟨M, _, by omega, hst⟩
  case rest =>
  obtain ⟨M, j0, hj0, hst⟩ := hcut
  clear HST
  have hl0 := HL.out
  go_wp2_with fail
  refine (toldHouse_any a g r p q j0 M _ hst.out.app).mono ?_
  rintro _ w2 ⟨g2, r2, rfl, hH, hg2, hr2, hgr2, hb2⟩
  have HS2 := Lib.hid (hst.out.step hb2); have HH2 := Lib.hid hH
  have hlow := hst.out.low
  have hr2w := hH.2.lt
  have hwz := hst.out.bel.size
  clear hH hb2
  go_wp2_with fail
  refine (toldReg_any a g r p q j0 M _ HS2.out.app).mono ?_
  rintro _ w3 ⟨p3, q3, rfl, hR, hp3, hq3, hpq3, hb3⟩
  have HS3 := Lib.hid (HS2.out.step hb3); have HH3 := Lib.hid (HH2.out.step hb3); have HR3 := Lib.hid hR
  clear hR hb3 HS2 HH2
  have hr2l := HH3.out.2.lt
  have hq3l := HR3.out.ltr
  go_wp2_with fail
  refine (names_all ⟨g2, 0, none⟩ r2 M.house _ HH3.out (fun q hq => by have := (HS3.out.app.good.2 q hq).1; unfold maxLen; omega) (by have := HS3.out.app.good.1; omega)).mono ?_
  rintro _ w4 ⟨v4, rfl, ho4, hb4⟩
  obtain ⟨LN, hLN⟩ : ∃ LN, (textsOf (M.house.map (·.1))).map StrV.mk = LN := ⟨_, rfl⟩
  obtain ⟨n6, hn6⟩ : ∃ n6, LN.length = n6 := ⟨_, rfl⟩
  rw [hLN] at ho4
  have HLN := Lib.hid hLN; have HN6 := Lib.hid hn6
  clear hLN hn6
  have hz4 := hb4.size
  have HS4 := Lib.hid (HS3.out.step hb4); have HH4 := Lib.hid (HH3.out.step hb4); have HR4 := Lib.hid (HR3.out.step hb4); have HO4 := Lib.hid ho4
  clear ho4 hb4
  go_wp2_with fail
  refine (items_all ⟨p3, 0, none⟩ q3 M.reg _ HR4.out (fun q hq => by have := HS4.out.key q hq; unfold maxLen; omega) (by have := HS4.out.app.regs.1; omega)).mono ?_
  rintro _ w5 ⟨v5, rfl, ho5, hb5⟩
  have HS5 := Lib.hid (HS4.out.step hb5); have HH5 := Lib.hid (HH4.out.step hb5); have HR5 := Lib.hid (HR4.out.step hb5); have HO5 := Lib.hid (HO4.out.step hb5); have HP5 := Lib.hid ho5
  clear ho5 hb5 HS4 HH4 HR4 HO4 HS3 HH3 HR3
  go_wp2_with fail
  refine (open_any ⟨g2, 0, none⟩ r2 M.house _ _ _ _ _ _ HH5.out hgr2 (by unfold maxLen; decide) (by have := HS5.out.app.good.1; unfold maxLen; omega)).mono ?_
  rintro _ w6 ⟨rfl, hH6, hx6⟩
  have HS6 := Lib.hid (HS5.out.other (by obtain ⟨_, m, hm, _⟩ := HH5.out; exact NoBid.map hm) hx6 hr2 hlow (by omega))
  have HR6 := Lib.hid (HR5.out.gx hx6 (by show p3 ≠ r2; omega) (by omega))
  have HO6 := Lib.hid (OwnS.gx HO5.out hx6 hr2l); have HP6 := Lib.hid (OwnS.gx HP5.out hx6 (by omega)); have HH6 := Lib.hid hH6
  have HOK := Lib.hid (HS5.out.app.ok.openH ⟨#[122, 122, 122]⟩ false 0 1125899906842624 0)
  have HGD := Lib.hid (HS5.out.app.good.openH ⟨#[122, 122, 122]⟩ false 0 1125899906842624 0)
  clear hH6 hx6 HS5 HR5 HO5 HP5 HH5
  go_wp2_with fail
  refine (settle_any ⟨g2, 0, none⟩ r2 _ _ _ HH6.out hgr2 HOK.out.1 (by have := HGD.out.1; omega) (fun q hq => by have := (HGD.out.2 q hq).2; omega)).mono ?_
  rintro _ w7 ⟨D, v7, rfl, _, _, _, hH7, hx7⟩
  have HS7 := Lib.hid (HS6.out.other (by obtain ⟨_, m, hm, _⟩ := HH6.out; exact NoBid.map hm) hx7 hr2 hlow (by omega))
  have HR7 := Lib.hid (HR6.out.gx hx7 (by show p3 ≠ r2; omega) (by omega))
  have HO7 := Lib.hid (OwnS.gx HO6.out hx7 hr2l); have HP7 := Lib.hid (OwnS.gx HP6.out hx7 (by omega))
  clear hH7 hx7 HS6 HR6 HO6 HP6 HH6
  go_wp2_with fail
  refine (reserve_any ⟨p3, 0, none⟩ q3 M.reg _ _ _ HR7.out hpq3 (by unfold maxLen; decide) (by have := HS7.out.app.regs.1; unfold maxLen; omega)).mono ?_
  rintro _ w8 ⟨rfl, hR8, hx8⟩
  have HS8 := Lib.hid (HS7.out.other (NoBid.map HR7.out.2) hx8 hq3 (by omega) (by omega))
  have HO8 := Lib.hid (OwnS.gx HO7.out hx8 hq3l); have HP8 := Lib.hid (OwnS.gx HP7.out hx8 (by omega)); have HR8 := Lib.hid hR8
  clear hR8 hx8 HS7 HR7 HO7 HP7
  obtain ⟨A5, c5, hv5, hs5, hc5, hm5, -⟩ := HP8.out.shape
  subst hv5
  obtain ⟨L5, hL5⟩ : ∃ L5, (textsOf (M.reg.map (·.1))).map StrV.mk = L5 := ⟨_, rfl⟩
  have hLs : ∀ s ∈ L5, s.v.size ≤ 1000 := by
    rw [← hL5]
    intro s hs
    obtain ⟨t, ht, rfl⟩ := List.mem_map.1 hs
    obtain ⟨x, hx, rfl⟩ := List.mem_map.1 (textsOf_mem ht)
    exact HS8.out.key x hx
  have HLS := Lib.hid hLs; have HL5 := Lib.hid hL5
  rw [hL5] at HP8 hs5 hc5 ⊢
  obtain ⟨n5, hn5⟩ : ∃ n5, L5.length = n5 := ⟨_, rfl⟩
  rw [hn5] at HP8 hs5 hc5 ⊢
  unfold maxLen at hm5
  have HN5 := Lib.hid hn5
  clear hs5 hL5 hLs hn5
  go_upto_block 2 with fail
  go_cut [10] (fun _ wx => Hid (AP w wx a g r p q M j0) ∧ Hid (OwnS wx w3.heap.size 9 v4 LN) ∧ Hid (OwnS wx w4.heap.size 9 (.slice A5 n5 c5) L5))
  case first => as_aux_lemma =>
    go_wp2_with fail
    go_loopw [70] (fun iv wr => ∃ (j : Nat) (Q : MReg), j ≤ n5 ∧ iv = .int .i64 j ∧ Hid (AP w wr a g r p q M j0) ∧ Hid (RegIs wr ⟨p3, 0, none⟩ q3 Q) ∧ Hid (OwnS wr w3.heap.size 9 v4 LN) ∧ Hid (OwnS wr w4.heap.size 9 (.slice A5 n5 c5) L5)) (fun iv _ => n5 - (intOf iv).toNat)
    case atStart => exact ⟨0, _, by omega, rfl, HS8, HR8, HO8, HP8⟩
    case round =>
      obtain ⟨j, Q, hj, rfl, HS, HR, HO, HP⟩ := hrel
      clear HS8 HR8 HO8 HP8
      by_cases hjl : j < n5
      · obtain ⟨A6, c6, hv6, hs6, -⟩ := HP.out.shape
        rw [HN5.out] at hv6 hs6
        injection hv6 with hv6 hv7 hv8
        subst hv6; subst hv8; clear hv7
        obtain ⟨bd, t, hbd, _, htk, hgt⟩ := hs6.at_ (k := j) hjl
        subst hbd
        have ft : wr.cell? (bd.add j) = some (.string t.v) := by have := get1 rfl hgt; rwa [show j * Enc.n StrV = j from Nat.mul_one j] at this
        have hts := HLS.out t (List.mem_of_getElem? htk)
        have hj2 : (j : Int) < (n5 : Int) := by omega
        have hj0 : (0 : Int) ≤ (j : Int) := by omega
        clear hs6 hgt htk
        go_wp2_with fail
        refine (owner_any ⟨p3, 0, none⟩ q3 Q t.v _ HR.out).mono ?_
        rintro _ w9 ⟨rfl, h9⟩
        obtain rfl : wr = w9 := by first | exact h9 | exact h9.symm
        obtain ⟨ob, hob⟩ : ∃ ob, (mget Q t.v).isSome = ob := ⟨_, rfl⟩
        rw [hob]
        cases ob
        · go_wp2_with fail
          exact ⟨⟨j + 1, Q, by omega, by go_num, HS, HR, HO, HP⟩, by simp [intOf]; omega⟩
        · go_wp2_with fail
          refine (release_any ⟨p3, 0, none⟩ q3 Q t.v _ _ HR.out hpq3 (by unfold maxLen; omega)).mono ?_
          rintro _ w10 ⟨rfl, hR10, hx10⟩
          have HS10 := Lib.hid (HS.out.other (NoBid.map HR.out.2) hx10 hq3 (by omega) (by omega))
          have HO10 := Lib.hid (OwnS.gx HO.out hx10 hq3l); have HP10 := Lib.hid (OwnS.gx HP.out hx10 (by omega)); have HR10 := Lib.hid hR10
          clear hR10 hx10
          go_wp2_with fail
          exact ⟨⟨j + 1, _, by omega, by go_num, HS10, HR10, HO10, HP10⟩, by simp [intOf]; omega⟩
      · obtain rfl : j = n5 := by omega
        go_wp2_with fail
        go_meet
        exact ⟨HS, HO, HP⟩
  case rest =>
  obtain ⟨HS, HO, HP⟩ := hcut
  clear HS8 HR8 HO8 HP8
  go_wp2_with fail
  refine (toldHouse_any a g r p q j0 M _ HS.out.app).mono ?_
  rintro _ w11 ⟨g4, r4, rfl, hH4, _, _, _, hb11⟩
  have HS11 := Lib.hid (HS.out.step hb11); have HH4 := Lib.hid hH4; have HO11 := Lib.hid (HO.out.step hb11); have HP11 := Lib.hid (HP.out.step hb11)
  clear hH4 hb11
  go_wp2_with fail
  refine (toldReg_any a g r p q j0 M _ HS11.out.app).mono ?_
  rintro _ w12 ⟨p5, q5, rfl, hR5, _, _, _, hb12⟩
  have HS12 := Lib.hid (HS11.out.step hb12); have HH5 := Lib.hid (HH4.out.step hb12); have HO12 := Lib.hid (HO11.out.step hb12); have HP12 := Lib.hid (HP11.out.step hb12); have HR5 := Lib.hid hR5
  clear hR5 hb12 HS11 HH4 HO11 HP11
  go_wp2_with fail
  refine (names_all ⟨g4, 0, none⟩ r4 M.house _ HH5.out (fun q hq => by have := (HS12.out.app.good.2 q hq).1; unfold maxLen; omega) (by have := HS12.out.app.good.1; omega)).mono ?_
  rintro _ w13 ⟨v13, rfl, ho13, hb13⟩
  rw [HLN.out] at ho13
  obtain ⟨A13, c13, hv13, hs13, hc13, hm13, -⟩ := ho13.shape
  obtain ⟨A14, c14, hv14, hs14, hc14, -, -⟩ := (HO12.out.step hb13).shape
  rw [HN6.out] at hv13 hs13 hc13 hv14 hs14 hc14
  subst hv13
  have HS13 := Lib.hid (HS12.out.step hb13); have HP13 := Lib.hid (HP12.out.step hb13); have HR13 := Lib.hid (HR5.out.step hb13)
  have HA := Lib.hid hs13; have HB := Lib.hid hs14
  subst hv14
  clear ho13 hb13 hs13 hs14 HS12 HP12 HR5
  go_wp2_with fail
  refine (sameStr_any A13 A14 n6 c13 c14 LN _ HA.out HB.out (by omega)).mono ?_
  rintro _ w14 ⟨rfl, hb14⟩
  have HS14 := Lib.hid (HS13.out.step hb14); have HP14 := Lib.hid (HP13.out.step hb14); have HR14 := Lib.hid (HR13.out.step hb14)
  clear hb14
  go_wp2_with fail
  refine (items_all ⟨p5, 0, none⟩ q5 M.reg _ HR14.out (fun q hq => by have := HS14.out.key q hq; unfold maxLen; omega) (by have := HS14.out.app.regs.1; omega)).mono ?_
  rintro _ w15 ⟨v15, rfl, ho15, hb15⟩
  rw [HL5.out] at ho15
  obtain ⟨A15, c15, hv15, hs15, hc15, hm15, -⟩ := ho15.shape
  rw [HN5.out] at hv15 hs15 hc15
  subst hv15
  obtain ⟨A16, c16, hv16, hs16, hc16, -, -⟩ := (HP14.out.step hb15).shape
  rw [HN5.out] at hv16 hs16
  injection hv16 with e1 e2 e3
  subst e1; subst e3; clear e2
  have HS15 := Lib.hid (HS14.out.step hb15)
  have HA := Lib.hid hs15; have HB := Lib.hid hs16
  clear ho15 hb15 hs15 hs16
  go_wp2_with fail
  refine (sameStr_any A15 A5 n5 c15 c5 L5 _ HA.out HB.out (by omega)).mono ?_
  rintro _ w16 ⟨rfl, hb16⟩
  have HB16 := Lib.hid (HS15.out.bel.trans hb16)
  clear hb16
  go_wp2_with fail
  refine (wakesG_any w _ HL.out HB16.out).mono ?_
  rintro _ w17 ⟨rfl, hb17⟩
  have HB17 := Lib.hid (HB16.out.trans hb17)
  clear hb17
  go_wp2_with fail
  go_ret
  exact ⟨rfl, HB17.out⟩
end Go.Proofs.YteockodnfempfaaGreatDoor
