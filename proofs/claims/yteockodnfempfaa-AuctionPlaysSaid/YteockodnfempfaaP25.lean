/- AuctionPlays returns true, walked. Conditions: those named in each theorem. -/
import Derived.Test.YteockodnfempfaaP2
import Derived.Test.YteockodnfempfaaP23
import Derived.Test.YteockodnfempfaaP21
import Derived.Test.YteockodnfempfaaP4
import Derived.Shelf.SlMaps.Clone
import Derived.Test.YteockodnfempfaaP24
import Derived.Deep.CutBlock
/- What the arguments of this seat read as. Conditions: those named in each theorem. -/
namespace Go.Proofs.Yteockodnfempfaa
open Go Go.RowKit Go.Gv

theorem cz131 : Try.prog.cellsOf 131 = 1 := by kernel_rfl
theorem cz185 : Try.prog.cellsOf 185 = 7 := by kernel_rfl
theorem cz9 : Try.prog.cellsOf 9 = 1 := by kernel_rfl
theorem cz4 : Try.prog.cellsOf 4 = 1 := by kernel_rfl
def ok185 (_W : World) (x : GLaw17Act) : Prop := FitI .i64 x.do_ ∧ FitI .i64 x.client ∧ FitI .i64 x.n ∧ x.name.size ≤ maxLen ∧ FitI .u64 x.t ∧ FitI .u64 x.u ∧ True
theorem op185 (W : World) : Opens Try.prog W 185 GLaw17Act (ok185 W) := fun H enc fuel cs x h => by
  obtain ⟨hl, n, hf⟩ := open_fieldT uu185 h
  rw [cz185] at hl
  obtain ⟨y0, h0⟩ := hf 0 3 0 (by rw [fl185]; rfl)
  obtain ⟨n0, e0, _, k0⟩ := DataW.trod_int uk3 h0
  rw [cz3] at e0
  have s0 : cs.drop 0 = [.int .i64 n0] ++ cs.drop 1 := by rw [← e0]; exact drop_split cs 0 1
  obtain ⟨y1, h1⟩ := hf 1 3 1 (by rw [fl185]; rfl)
  obtain ⟨n1, e1, _, k1⟩ := DataW.trod_int uk3 h1
  rw [cz3] at e1
  have s1 : cs.drop 1 = [.int .i64 n1] ++ cs.drop 2 := by rw [← e1]; exact drop_split cs 1 1
  obtain ⟨y2, h2⟩ := hf 2 3 2 (by rw [fl185]; rfl)
  obtain ⟨n2, e2, _, k2⟩ := DataW.trod_int uk3 h2
  rw [cz3] at e2
  have s2 : cs.drop 2 = [.int .i64 n2] ++ cs.drop 3 := by rw [← e2]; exact drop_split cs 2 1
  obtain ⟨y3, h3⟩ := hf 3 9 3 (by rw [fl185]; rfl)
  obtain ⟨n3, e3, _, k3⟩ := DataW.trod_string uk9 h3
  rw [cz9] at e3
  have s3 : cs.drop 3 = [.string n3] ++ cs.drop 4 := by rw [← e3]; exact drop_split cs 3 1
  obtain ⟨y4, h4⟩ := hf 4 28 4 (by rw [fl185]; rfl)
  obtain ⟨n4, e4, _, k4⟩ := DataW.trod_int uk28 h4
  rw [cz28] at e4
  have s4 : cs.drop 4 = [.int .u64 n4] ++ cs.drop 5 := by rw [← e4]; exact drop_split cs 4 1
  obtain ⟨y5, h5⟩ := hf 5 28 5 (by rw [fl185]; rfl)
  obtain ⟨n5, e5, _, k5⟩ := DataW.trod_int uk28 h5
  rw [cz28] at e5
  have s5 : cs.drop 5 = [.int .u64 n5] ++ cs.drop 6 := by rw [← e5]; exact drop_split cs 5 1
  obtain ⟨y6, h6⟩ := hf 6 4 6 (by rw [fl185]; rfl)
  obtain ⟨n6, e6, _⟩ := DataW.trod_bool uk4 h6
  have k6 := trivial
  rw [cz4] at e6
  have s6 : cs.drop 6 = [.bool n6] ++ cs.drop 7 := by rw [← e6]; exact drop_split cs 6 1
  have hz : cs.drop 7 = [] := List.drop_eq_nil_of_le (by omega)
  refine ⟨⟨n0, n1, n2, n3, n4, n5, n6⟩, ?_, k0, k1, k2, k3, k4, k5, k6⟩
  have hh : cs.drop 0 = [.int .i64 n0] ++ ([.int .i64 n1] ++ ([.int .i64 n2] ++ ([.string n3] ++ ([.int .u64 n4] ++ ([.int .u64 n5] ++ ([.bool n6])))))) := by rw [s0, s1, s2, s3, s4, s5, s6, hz, List.append_nil]
  exact hh
theorem op131 (W : World) : Opens Try.prog W 131 Hdr (SlOk W GLaw17Act (ok185 W)) := opens_slice (e := 185) (by kernel_rfl) (cz185.trans rfl) (op185 W)
end Go.Proofs.Yteockodnfempfaa
/- The names of a house, sorted: which they are. Conditions: those named in each theorem. -/
namespace Go.Proofs.Yteockodnfempfaa
open Go Go.RowKit Go.Gv Go.Sort Go.Proofs Go.Maps Go.MapKept Go.ChangeMaps Go.Shelf

def keyBytes : Value → List UInt8
  | .string s => s.data.toList
  | _ => []
theorem own_of_mapK {V : Type} [VEnc V] {P : Program} {k : TypeId} (hk : P.underlying k = some .string) {w : World} {r : Nat} {m : List (ByteArray × V)} (hm : mapAt ByteArray V w r = some m) (hs : ∀ p ∈ m, p.1.size ≤ maxLen) (hl : m.length ≤ maxLen) :
    ∃ D0 : DataW Unit, w.ownsMap P k (fun _ => some (.nil, [])) r m.length D0 ∧ Maps.size D0 = m.length ∧ (strKeys D0).Perm (m.map fun p => p.1.data.toList) := by
  obtain ⟨es, clock, hb, he, hn, hp, hc⟩ := mapAt_iff.1 hm
  have hlen : es.size = m.length := by have := congrArg List.length he; simpa using this
  have hkey : ∀ x ∈ es.toList, ∃ s : ByteArray, x.key = .string s ∧ s.size ≤ maxLen := by
    intro x hx
    have h1 : (x.key, x.val) ∈ es.toList.map (fun e => (e.key, e.val)) := List.mem_map.2 ⟨x, hx, rfl⟩
    rw [he, List.mem_map] at h1
    obtain ⟨p, hp1, hp2⟩ := h1
    injection hp2 with h2 _
    exact ⟨p.1, h2.symm, hs p hp1⟩
  have hkeys : (es.toList.map (·.key)).Nodup := by
    have e : es.toList.map (·.key) = (m.map (·.1)).map (fun k => KEnc.kv k) := by
      have := congrArg (List.map Prod.fst) he
      simpa [List.map_map, Function.comp_def] using this
    rw [e]
    exact List.pairwise_map.2 (hn.imp fun hne e => hne (KEnc.kinj _ _ e))
  have hborn : (es.toList.map (·.born)).Nodup := List.pairwise_map.2 (hp.imp fun h => Nat.ne_of_lt h)
  have hrg : ∀ x ∈ es.toList, strOf (Go.WideElems.rg P k (fun _ => some ((.nil : DataW Unit), [])) x).1 = keyBytes x.key := by
    intro x hx
    obtain ⟨s, h1, h2⟩ := hkey x hx
    have := Go.WideElems.rd_mk (P := P) (k := k) (R := fun _ => some ((.nil : DataW Unit), [])) (key := x.key) (val := x.val) (born := x.born) (by rw [h1]; exact Go.WideMaps.keyOf_string_mk hk h2) rfl
    unfold Go.WideElems.rg
    rw [this, h1]
    rfl
  refine ⟨.map ((es.toList.map (Go.WideElems.rg P k (fun _ => some (.nil, [])))).foldr DataW.insert []), ⟨es, clock, hb, ⟨by omega, ⟨hc, hborn, hkeys⟩, fun x hx => ?_⟩, by omega, rfl⟩, ?_, ?_⟩
  · obtain ⟨s, h1, h2⟩ := hkey x hx
    exact ⟨_, Go.WideElems.rd_mk (key := x.key) (val := x.val) (born := x.born) (by rw [h1]; exact Go.WideMaps.keyOf_string_mk hk h2) rfl⟩
  · rw [Maps.size_eq, length_sorted]; simpa using hlen
  · show (List.map _ _).Perm _
    refine ((Go.WideShapes.sorted_perm _).map _).trans ?_
    rw [List.map_map]
    have e1 : es.toList.map ((fun p => strOf p.1) ∘ Go.WideElems.rg P k (fun _ => some ((.nil : DataW Unit), []))) = es.toList.map fun x => keyBytes x.key := List.map_congr_left fun x hx => hrg x hx
    have e2 : (es.toList.map fun x => keyBytes x.key) = m.map fun p => p.1.data.toList := by
      have := congrArg (List.map fun q => keyBytes q.1) he
      rw [List.map_map, List.map_map] at this
      exact this
    rw [e1, e2]
theorem toList_eq (s : ByteArray) : s.toList = s.data.toList := ByteArray.toList_eq s
/-- The twins' names, sorted: they stand so already. -/
theorem Twin.sorted {H : MHouse} {R : List MSale} (h : Twin H R) {ss : List (List UInt8)} (hs : ss.Perm (H.map fun p => p.1.data.toList)) : ss.mergeSort leB = R.map fun s => s.name.data.toList := by
  have h1 : ss.Perm (R.map fun s => s.name.data.toList) := by
    refine hs.trans ?_
    have := (h.names.map fun k : ByteArray => k.data.toList).symm
    rw [List.map_map, List.map_map] at this
    exact this
  rw [mergeSort_of_perm h1]
  refine List.mergeSort_of_pairwise ?_
  rw [List.pairwise_map]
  refine h.rise.imp fun {a b} hab => ?_
  rw [toList_eq, toList_eq] at hab
  simp only [leB, decide_eq_true_eq]
  exact List.le_of_lt hab
theorem strs_flat : ∀ (l : List ByteArray), (l.map StrV.mk).flatMap Enc.enc = (l.map fun s => s.data.toList).map encStr
  | [] => rfl
  | s :: l => by
    rw [List.map_cons, List.flatMap_cons, strs_flat l, List.map_cons, List.map_cons]
    have : (Enc.enc (⟨s⟩ : StrV)) = [encStr s.data.toList] := by
      show [Value.string s] = [Value.string ⟨s.data.toList.toArray⟩]
      simp
    rw [this]; rfl
set_option maxRecDepth 100000 in
set_option maxHeartbeats 1000000 in
theorem namesR_any (p : Addr) (r : Nat) (H : MHouse) (R : List MSale) (w : World) (hH : HouseIs w p r H) (hT : Twin H R) (hk : ∀ q ∈ H, q.1.size ≤ maxLen) (hl : H.length ≤ 1000000) :
    Calls Try.prog 63 #[.pointer (some p)] w fun e w' => ∃ v, e = .returned v ∧ OwnS w' w.heap.size 9 v (strL (namesR R)) ∧ Bel w w' := by
  obtain ⟨hc, m, hm, hr⟩ := hH
  have hml := hr.len
  have hkm : ∀ q ∈ m, q.1.size ≤ maxLen := fun q hq => by
    have h1 : q.1 ∈ m.map (·.1) := List.mem_map.2 ⟨q, hq, rfl⟩
    rw [hr.keys, List.mem_map] at h1
    obtain ⟨q2, h2, h3⟩ := h1
    rw [← h3]
    exact hk q2 h2
  obtain ⟨D0, hown, hsz, hsk⟩ := own_of_mapK (P := Try.prog) (k := 9) Try.underlying9 hm hkm (by unfold maxLen; omega)
  have hkeys : (m.map fun p => p.1.data.toList) = H.map fun p => p.1.data.toList := by
    have := congrArg (List.map fun k : ByteArray => k.data.toList) hr.keys
    rwa [List.map_map, List.map_map] at this
  rw [hkeys] at hsk
  have HOWN := Lib.hid hown; have HSZ := Lib.hid hsz; have HSK := Lib.hid hsk; have HML := Lib.hid hml; have HT := Lib.hid hT
  clear hm hr hkm hown hsz hsk hk hml hkeys hT
  go_enter Try.func63, Try.ntmps63
  go_wp2_with fail
  refine (callsIn_wide.1 (Try.maps_Keys_97 (some r) w)).mono ?_
  rintro _ _ ⟨rfl, rfl⟩
  go_wp2_with fail
  refine (callsIn_wide.1 (Try.slices_Sorted_keys_96_97 r m.length D0 _ w HOWN.out (by rw [HSZ.out]; have := HML.out; unfold maxLen; omega) (by rw [HSZ.out]; have := HML.out; omega))).mono ?_
  rintro _ w2 ⟨v, ss, rfl, hS, hrow, _, hb⟩
  have hsort := HT.out.sorted (hS.trans HSK.out)
  have hrow2 : OwnS w2 w.heap.size 9 v (strL (namesR R)) := by
    have e1 : (strL (namesR R)).flatMap Enc.enc = (ss.mergeSort (fun x y => decide (x ≤ y))).map encStr := by
      have : (ss.mergeSort (fun x y => decide (x ≤ y))) = (R.map (·.name)).map fun s => s.data.toList := by rw [List.map_map]; exact hsort
      rw [this]
      exact strs_flat _
    have e2 : (strL (namesR R)).length = ss.length := by
      have := congrArg List.length hsort
      rw [List.length_mergeSort] at this
      rw [strL_len, namesR_len]; simpa using this.symm
    have h3 : OwnS w2 (w.alloc (.cells #[.map (some r)] 141)).heap.size 9 v (strL (namesR R)) := by
      unfold OwnS
      rw [e1, e2]
      exact hrow
    exact h3.mono (by simp)
  have HB := Lib.hid (show Bel w w2 from Bel.trans ((Bel.refl w).alloc _) hb)
  have HRW := Lib.hid hrow2
  clear hrow hS hb hsort hrow2
  go_wp2_with fail
  go_ret
  exact ⟨v, rfl, HRW.out, HB.out⟩
end Go.Proofs.Yteockodnfempfaa
/- A house cloned. Conditions: those named in each theorem. -/
namespace Go.Proofs.Yteockodnfempfaa
open Go Go.RowKit Go.Gv Go.Sort Go.Proofs

set_option maxRecDepth 100000 in
theorem cloneSales_any (r : Nat) (m : List (ByteArray × GAuctionSale)) (w : World) (hm : mapAt ByteArray GAuctionSale w r = some m) :
    Calls Try.prog 107 #[.map (some r)] w fun e w' => ∃ r', e = .returned (.map (some r')) ∧ w.heap.size ≤ r' ∧ mapAt ByteArray GAuctionSale w' r' = some m ∧ Bel w w' := by
  obtain ⟨es, ck, hb, hrest⟩ := mapAt_iff.1 hm
  have HN := Lib.hid (show mapAt ByteArray GAuctionSale (w.alloc (.map es ck)) w.heap.size = some m from mapAt_iff.2 ⟨es, ck, heap_alloc_new w _, hrest⟩)
  have hq := fun w => run_eql_map_nil_sl (P := Try.prog) w 141 _ _ (some r) um141
  clear hm hrest
  go_enter Try.func107, Try.ntmps107
  go_wp2
  rw [run_callFunc_extern Try.func124 (by kernel_rfl) (by kernel_rfl) (by kernel_rfl) (e := Extern.MapsClone.clone) (by kernel_rfl), run_maps_clone_sl w 141 hb]
  simp only [Result.andThen]
  rw [Oper.upon_value]
  go_wp2
  rw [run_typeAssert_map_sl _ 141 20 _ _ _ um141]
  simp only [Result.andThen]
  rw [Oper.upon_value]
  go_wp2
  go_ret
  exact ⟨_, rfl, Nat.le_refl _, HN.out, (Bel.refl w).alloc _⟩
set_option maxRecDepth 100000 in
theorem cloneHouse_any (g r : Nat) (H : MHouse) (w : World) (hH : HouseIs w ⟨g, 0, none⟩ r H) :
    Calls Try.prog 66 #[.pointer (some ⟨g, 0, none⟩)] w fun e w' => ∃ g' r' : Nat, e = .returned (.pointer (some ⟨g', 0, none⟩)) ∧ HouseIs w' ⟨g', 0, none⟩ r' H ∧ w.heap.size ≤ g' ∧ w.heap.size ≤ r' ∧ g' ≠ r' ∧ Bel w w' := by
  obtain ⟨hc, m, hm, hr⟩ := hH
  have HM := Lib.hid hm; have HR := Lib.hid hr
  clear hm hr
  go_enter Try.func66, Try.ntmps66
  go_wp2_with fail
  refine (cloneSales_any r m w HM.out).mono ?_
  rintro _ w1 ⟨r', rfl, hr', hm', hb⟩
  have HA := Lib.hid (show HouseAt w1 r' H from ⟨m, hm', HRel.mono (fun _ _ hs => hs.step hb) HR.out⟩); have HB := Lib.hid hb
  have hrl := mapAt_lt hm'
  have hz := hb.size
  clear hm' hb
  go_wp2_with fail
  go_ret
  exact ⟨w1.heap.size, r', rfl, ⟨cell_zero (GAuctionHouse.at_m (nw143 w1 w1.heap.size ⟨some r'⟩ (by simp))), HA.out.step ((Bel.refl w1).alloc _)⟩, hz, hr', by omega, HB.out.alloc _⟩
end Go.Proofs.Yteockodnfempfaa
/- Both houses side by side: what each act leaves. Conditions: those named in each theorem. -/
namespace Go.Proofs.Yteockodnfempfaa
open Go Go.RowKit Go.Gv Go.Sort

def GoodH (H : MHouse) (kk : Nat) : Prop := H.length ≤ 64 ∧ ∀ q ∈ H, q.1.size ≤ 16 ∧ q.2.bids.length ≤ kk
theorem GoodH.mono {H : MHouse} {j k : Nat} (h : GoodH H j) (hjk : j ≤ k) : GoodH H k := ⟨h.1, fun q hq => ⟨(h.2 q hq).1, Nat.le_trans (h.2 q hq).2 hjk⟩⟩
theorem GoodH.nil (k : Nat) : GoodH [] k := ⟨by simp, by simp⟩
theorem GoodH.set {H : MHouse} {kk : Nat} (h : GoodH H kk) {k : ByteArray} {x : MSale} (hk : k.size ≤ 16) (hx : x.bids.length ≤ kk) (hl : k ∈ H.map (·.1) ∨ H.length < 64) : GoodH (mset H k x) kk := by
  unfold mset
  split
  · refine ⟨by simpa using h.1, fun q hq => ?_⟩
    rw [List.mem_map] at hq
    obtain ⟨p, hp, rfl⟩ := hq
    split
    · exact ⟨hk, hx⟩
    · exact h.2 p hp
  · rename_i hne
    have hl2 : H.length < 64 := hl.resolve_left hne
    refine ⟨by simp; omega, fun q hq => ?_⟩
    rw [List.mem_append, List.mem_singleton] at hq
    rcases hq with hq | rfl
    · exact h.2 q hq
    · exact ⟨hk, hx⟩
theorem openR_zero {H : MHouse} {name : ByteArray} {reserve close now : Int} (h : openR H name reserve close now = 0) : nameB name = true ∧ H.length < 64 := by
  unfold openR at h
  by_cases h1 : badOpen name reserve = true
  · rw [if_pos h1] at h; cases h
  rw [if_neg h1] at h
  by_cases h2 : (mget H name).isSome = true
  · rw [if_pos h2] at h; cases h
  rw [if_neg h2] at h
  by_cases h3 : close ≤ now
  · rw [if_pos h3] at h; cases h
  rw [if_neg h3] at h
  by_cases h4 : 64 ≤ H.length
  · rw [if_pos h4] at h; cases h
  refine ⟨?_, by omega⟩
  unfold badOpen at h1
  cases hn : nameB name
  · simp [hn] at h1
  · rfl
theorem nameB_size {s : ByteArray} (h : nameB s = true) : s.size ≤ 16 := by
  rw [nameB_eq] at h
  simp at h
  exact h.2.2
theorem GoodH.openH {H : MHouse} {kk : Nat} (h : GoodH H kk) (name : ByteArray) (v : Bool) (reserve close now : Int) : GoodH (openH H name v reserve close now) kk := by
  unfold Go.Proofs.Yteockodnfempfaa.openH
  split
  · rename_i h0
    obtain ⟨h1, h2⟩ := openR_zero h0
    exact h.set (nameB_size h1) (Nat.zero_le _) (.inr h2)
  · exact h
theorem GoodH.get {H : MHouse} {kk : Nat} (_ : GoodH H kk) {k : ByteArray} {x : MSale} (hx : mget H k = some x) : (k, x) ∈ H := by
  unfold mget at hx
  cases hf : H.find? (fun p => decide (p.1 = k)) with
  | none => rw [hf] at hx; cases hx
  | some p =>
    rw [hf] at hx
    injection hx with hx
    have h1 := List.find?_some hf
    have h2 := List.mem_of_find?_eq_some hf
    simp only [decide_eq_true_eq] at h1
    rw [← h1, ← hx]
    exact h2
theorem GoodH.bidH {H : MHouse} {kk : Nat} (h : GoodH H kk) (name : ByteArray) (client amount now : Int) : GoodH (bidH H name client amount now) (kk + 1) := by
  unfold Go.Proofs.Yteockodnfempfaa.bidH
  cases hm : mget H name with
  | none => exact h.mono (by omega)
  | some x =>
    show GoodH (if bidR H name client amount now = 0 then mset H name (x.bid client amount) else H) (kk + 1)
    have hx := h.get hm
    split
    · refine (h.mono (by omega)).set (h.2 _ hx).1 ?_ (.inl (List.mem_map.2 ⟨_, hx, rfl⟩))
      show (x.bids ++ [_]).length ≤ kk + 1
      have := (h.2 _ hx).2
      simp only at this
      rw [List.length_append]
      simp
      omega
    · exact h.mono (by omega)
theorem GoodH.settleH {H : MHouse} {kk : Nat} (h : GoodH H kk) (now : Int) : GoodH (settleH H now) kk := by
  unfold Go.Proofs.Yteockodnfempfaa.settleH
  refine ⟨by simpa using h.1, fun q hq => ?_⟩
  rw [List.mem_map] at hq
  obtain ⟨p, hp, rfl⟩ := hq
  split
  · exact h.2 p hp
  · exact h.2 p hp
/-- The program's house at g over the map r, and the document's at h: the same auctions. -/
structure BothH (w : World) (g r h : Nat) (H : MHouse) (R : List MSale) (kk : Nat) : Prop where
  house : HouseIs w ⟨g, 0, none⟩ r H
  ref : RHouseIs w h R
  twin : Twin H R
  ne : g ≠ r
  good : GoodH H kk
section
variable {w w' : World} {g r h kk : Nat} {H : MHouse} {R : List MSale}
theorem BothH.gh (b : BothH w g r h H R kk) : g ≠ h := by
  intro e
  obtain ⟨hd, ss, hc, _⟩ := b.ref.cell
  have h1 := b.house.1
  rw [e, hc] at h1
  injection h1 with h1
  cases h1
theorem BothH.rh (b : BothH w g r h H R kk) : r ≠ h := by
  intro e
  obtain ⟨_, m, hm, _⟩ := b.house
  obtain ⟨es, clock, hb, _⟩ := mapAt_iff.1 hm
  obtain ⟨_, _, hb2, _⟩ := b.ref
  rw [e, hb2] at hb
  cases hb
theorem BothH.odds (b : BothH w g r h H R kk) : ∀ k, (k = r ∨ k = h) → Odd w k := by
  obtain ⟨_, m, hm, _⟩ := b.house
  rintro k (rfl | rfl)
  · exact Odd.map hm
  · exact b.ref.odd
theorem BothH.bel (b : BothH w g r h H R kk) (hb : Bel w w') : BothH w' g r h H R kk := ⟨b.house.step hb, b.ref.bel hb, b.twin, b.ne, b.good⟩
theorem BothH.mono {j : Nat} (b : BothH w g r h H R kk) (hj : kk ≤ j) : BothH w g r h H R j := ⟨b.house, b.ref, b.twin, b.ne, b.good.mono hj⟩
theorem BothH.ltr (b : BothH w g r h H R kk) : r < w.heap.size := b.house.2.lt
theorem BothH.lth (b : BothH w g r h H R kk) : h < w.heap.size := b.ref.lt
/-- What changes elsewhere leaves both. -/
theorem BothH.off {S : Nat → Prop} (b : BothH w g r h H R kk) (hO : ∀ k, S k → Odd w k) (hc : Chg S w w') (h1 : ¬ S g) (h2 : ¬ S r) (h3 : ¬ S h) : BothH w' g r h H R kk :=
  ⟨b.house.off hO hc h1 h2, b.ref.off hO hc h3, b.twin, b.ne, b.good⟩
/-- An act of both. -/
theorem BothH.act {w1 : World} {H' : MHouse} {j : Nat} (b : BothH w g r h H R kk) (hg : GX r w w1) (hH : HouseIs w1 ⟨g, 0, none⟩ r H') (hgood : GoodH H' j) {R' : List MSale} (hT : Twin H' R') (hR : RHouseIs w' h R') (hc : Chg (fun q => q = h) w1 w') :
    BothH w' g r h H' R' j ∧ Chg (fun q => q = r ∨ q = h) w w' := by
  have b1 : RHouseIs w1 h R := by
    obtain ⟨_, m, hm, _⟩ := b.house
    exact b.ref.gx hm hg
  refine ⟨⟨hH.off (S := fun q => q = h) (fun k e => by subst e; exact b1.odd) hc b.gh b.rh, hR, hT, b.ne, hgood⟩, ?_⟩
  exact (Chg.of_grown hg fun k e => .inl (by injection e with e; exact e.symm)).tr (hc.sub fun k e => .inr e)
theorem BothH.mid {w1 : World} (b : BothH w g r h H R kk) (hg : GX r w w1) : RHouseIs w1 h R := by
  obtain ⟨_, m, hm, _⟩ := b.house
  exact b.ref.gx hm hg
end
end Go.Proofs.Yteockodnfempfaa
/- Names of acts; a house cloned. Conditions: those named in each theorem. -/
namespace Go.Proofs.Yteockodnfempfaa
open Go Go.RowKit Go.Gv Go.Sort Go.Proofs

/-- One byte, as a name. -/
theorem one_conv (w : World) (b : Nat) (k : Nat) (hk : k < 100) (h0 : w.cell? ⟨b, 0, none⟩ = some (.int .u8 (97 + (k : Int)))) :
    (convert 79 9 (.slice (some ⟨b, 0, none⟩) 1 1)).run Try.prog w = .ok (.string ⟨#[UInt8.ofNat (97 + k)]⟩) w := by
  have := run_convert_bytes_back (P := Try.prog) w 79 9 5 ⟨b, 0, none⟩ 1 [UInt8.ofNat (97 + k)] (by kernel_rfl) (by kernel_rfl) (by kernel_rfl) (fun j hj => by
    match j, hj with
    | 0, _ =>
      show w.cell? ⟨b, 0, none⟩ = _
      rw [h0]
      show some (Value.int .u8 (97 + (k : Int))) = some (Value.int .u8 (((UInt8.ofNat (97 + k)).toNat : Nat) : Int))
      rw [UInt8.toNat_ofNat', show (97 + k) % 2 ^ 8 = 97 + k from by omega]
      push_cast
      rfl)
  exact this
set_option maxRecDepth 100000 in
set_option maxHeartbeats 1000000 in
theorem nameA_any (s : ByteArray) (k : Int) (w : World) (hs : s.size ≤ maxLen) (hk1 : -9223372036854775808 ≤ k) (hk2 : k ≤ 9223372036854775807) :
    Calls Try.prog 98 #[.string s, .int .i64 k] w fun e w' => ∃ t : ByteArray, e = .returned (.string t) ∧ t.size ≤ 20 ∧ Bel w w' := by
  unfold maxLen at hs
  obtain ⟨q, hq, hq0, hq1⟩ : ∃ q, within k 4 = q ∧ 0 ≤ q ∧ q < 4 := by
    refine ⟨_, rfl, ?_, ?_⟩ <;> unfold within <;> rw [if_neg (by omega)]
    · exact Int.emod_nonneg _ (by omega)
    · exact Int.emod_lt_of_pos _ (by omega)
  obtain ⟨j, rfl⟩ := Int.eq_ofNat_of_zero_le hq0
  have HQ := Lib.hid hq; clear hq
  go_enter Try.func98, Try.ntmps98
  go_upto_if 7 with fail
  go_cut [0] (fun v wx => ∃ t : ByteArray, v = .string t ∧ t.size ≤ 20 ∧ wx = w)
  case first => as_aux_lemma =>
    by_cases h : 20 < s.size
    · have h2 : (20 : Int) < (s.size : Int) := by omega
      have h3 : (20 : Int) ≤ (s.size : Int) := by omega
      go_wp2_with fail
      go_meet
      exact ⟨_, rfl, by rw [ByteArray.size_extract]; omega, rfl⟩
    · have h2 : ¬ (20 : Int) < (s.size : Int) := by omega
      go_wp2_with fail
      go_meet
      exact ⟨_, rfl, by omega, rfl⟩
  case rest =>
    obtain ⟨t, rfl, ht, rfl⟩ := hcut
    obtain ⟨m, hm⟩ : ∃ m, Int.tmod k 5 = m := ⟨_, rfl⟩
    have h9 : -5 < m ∧ m < 5 := by
      have h1 := Int.tmod_lt_of_pos k (b := 5) (by omega)
      have h2 := Int.lt_tmod_of_pos k (b := 5) (by omega)
      omega
    have h5 : IntKind.i64.wrap m = m := IntWalk.i64_in _ (by omega)
    by_cases h4 : m = 4
    · subst h4
      go_wp2_with fail
      go_ret
      exact ⟨t, rfl, ht, Bel.refl _⟩
    · go_wp2_with fail
      refine (within_is k 4 (j : Int) _ HQ.out (by omega) hk1 hk2).mono ?_
      rintro _ w2 ⟨rfl, h2⟩
      obtain rfl : _ = w2 := by first | exact h2 | exact h2.symm
      have e1 : IntKind.i64.wrap (97 + (j : Int)) = 97 + j := IntWalk.i64_in _ (by omega)
      have e2 : IntKind.u8.wrap (97 + (j : Int)) = 97 + j := IntWalk.u8_in _ (by omega)
      have hconv : (convert 79 9 (.slice (some ⟨wc.heap.size, 0, none⟩) 1 1)).run Try.prog (wc.alloc (.cells #[.int .u8 (97 + (j : Int))] 5)) = .ok (.string ⟨#[UInt8.ofNat (97 + j)]⟩) (wc.alloc (.cells #[.int .u8 (97 + (j : Int))] 5)) := by
        refine one_conv _ _ j (by omega) ?_
        unfold World.cell?; rw [heap_alloc_new]; rfl
      go_wp2_with fail
      go_ret
      exact ⟨_, rfl, Nat.le_trans (by decide : (1 : Nat) ≤ 20) (Nat.le_refl _), (Bel.refl _).alloc _⟩
end Go.Proofs.Yteockodnfempfaa
/- Acts to both houses: play returns true. Conditions: those named in each theorem. -/
namespace Go.Proofs.Yteockodnfempfaa
open Go Go.RowKit Go.Gv Go.Sort

def FitAct (x : GLaw17Act) : Prop := (-9223372036854775808 ≤ x.do_ ∧ x.do_ ≤ 9223372036854775807) ∧ x.name.size ≤ maxLen ∧ (0 ≤ x.t ∧ x.t ≤ 18446744073709551615) ∧ 0 ≤ x.u ∧ x.u ≤ 18446744073709551615
/-- What an act leaves of both. -/
def ActR (w w' : World) (g r h kk : Nat) : Prop := ∃ H' R', BothH w' g r h H' R' kk ∧ Chg (fun q => q = r ∨ q = h) w w'
theorem ActR.of {w w' : World} {g r h kk : Nat} {H : MHouse} {R : List MSale} (b : BothH w g r h H R kk) (hb : Bel w w') : ActR w w' g r h kk := ⟨H, R, b.bel hb, Chg.of_bel hb _⟩
theorem ActR.mono {w w' : World} {g r h j k : Nat} (a : ActR w w' g r h j) (hjk : j ≤ k) : ActR w w' g r h k := by
  obtain ⟨H, R, b, c⟩ := a
  exact ⟨H, R, b.mono hjk, c⟩
theorem BothH.big {w : World} {g r h kk : Nat} {H : MHouse} {R : List MSale} (b : BothH w g r h H R kk) (hkk : kk ≤ 1000) : R.length ≤ 1000000 ∧ H.length ≤ 1000000 ∧ (∀ q ∈ H, q.2.bids.length ≤ 1000000) ∧ (∀ x ∈ R, x.bids.length ≤ 1000000) ∧ (∀ q ∈ H, q.1.size ≤ maxLen) ∧ ∀ name x, mget H name = some x → x.bids.length ≤ 1000000 := by
  have h1 := b.good.1
  have h2 := b.twin.len
  refine ⟨by omega, by omega, fun q hq => by have := (b.good.2 q hq).2; omega, fun x hx => ?_, fun q hq => by have := (b.good.2 q hq).1; unfold maxLen; omega, fun name x hx => by have := (b.good.2 _ (b.good.get hx)).2; simp only at this; omega⟩
  have hm := b.twin.perm.mem_iff.1 hx
  rw [List.mem_map] at hm
  obtain ⟨q, hq, rfl⟩ := hm
  have := (b.good.2 q hq).2
  omega
theorem act_cells {w : World} {g : Nat} {x : GLaw17Act} (h : get? GLaw17Act w ⟨g, 0, none⟩ = some x) :
    w.cell? ⟨g, 0, none⟩ = some (.int .i64 x.do_) ∧ w.cell? ⟨g, 1, none⟩ = some (.int .i64 x.client) ∧ w.cell? ⟨g, 2, none⟩ = some (.int .i64 x.n) ∧ w.cell? ⟨g, 3, none⟩ = some (.string x.name) ∧ w.cell? ⟨g, 4, none⟩ = some (.int .u64 x.t) ∧ w.cell? ⟨g, 5, none⟩ = some (.int .u64 x.u) ∧ w.cell? ⟨g, 6, none⟩ = some (.bool x.vickrey) :=
  ⟨cell_zero (GLaw17Act.at_do_ h), by simpa using cell_off (by omega) (GLaw17Act.at_client h), by simpa using cell_off (by omega) (GLaw17Act.at_n h), by simpa using cell_off (by omega) (GLaw17Act.at_name h), by simpa using cell_off (by omega) (GLaw17Act.at_t h), by simpa using cell_off (by omega) (GLaw17Act.at_u h), by simpa using cell_off (by omega) (GLaw17Act.at_vickrey h)⟩
set_option maxRecDepth 100000 in
set_option maxHeartbeats 8000000 in
theorem playA_any (g r h : Nat) (H : MHouse) (R : List MSale) (kk : Nat) (A : Option Addr) (n c : Nat) (xs : List GLaw17Act) (w0 w : World) (hx : Sl GLaw17Act w0 w0.heap.size A n xs) (hox : ∀ x ∈ xs, FitAct x) (hn : n ≤ maxLen)
    (hw : Bel w0 w) (hB : BothH w g r h H R kk) (hkk : kk ≤ 200) (hr : w0.heap.size ≤ r) (hh : w0.heap.size ≤ h) :
    Calls Try.prog 65 #[.pointer (some ⟨g, 0, none⟩), .pointer (some ⟨h, 0, none⟩), .slice A n c] w fun e w' => e = .returned (.bool true) ∧ ActR w w' g r h (kk + 40) := by
  unfold maxLen at hn
  have HX := Lib.hid hx; have HOX := Lib.hid hox; have HB := Lib.hid hB; have HW := Lib.hid hw
  have HS := Lib.hid (show ∀ q, (q = r ∨ q = h) → w0.heap.size ≤ q from fun q hq => by rcases hq with rfl | rfl <;> assumption)
  clear hx hox hB hw
  go_enter Try.func65, Try.ntmps65
  go_wp2_with fail
  go_loopw [7] (fun i wr => ∃ (k : Nat), k ≤ n ∧ k ≤ 40 ∧ i = .int .i64 k ∧ ActR w wr g r h (kk + k)) (fun i _ => 41 - (intOf i).toNat)
  case atStart => exact ⟨0, by omega, by omega, rfl, ActR.of HB.out (Bel.refl _)⟩
  case round =>
    obtain ⟨k, hk, hk40, rfl, H, R, hB, hC⟩ := hrel
    by_cases hcont : k < n ∧ k < 40
    · obtain ⟨hlt, hlt40⟩ := hcont
      have hB2 : Bel w0 wr := Chg.bel2 HW.out hC HS.out
      obtain ⟨ad, x, rfl, _, hxk, hgx⟩ := (HX.out.stepB hB2).at_ (k := k) hlt
      obtain ⟨⟨hd1, hd2⟩, hf1, ⟨ht1, ht2⟩, hu1, hu2⟩ := HOX.out x (List.mem_of_getElem? hxk)
      change get? GLaw17Act wr (ad.add (k * 7)) = some x at hgx
      have hBr := hB.bel ((Bel.refl wr).alloc (.cells (GLaw17Act.enc x).toArray 185))
      have HG := Lib.hid (get?_new (w := wr) 185 x)
      have HC := Lib.hid (hC.tr (Chg.of_bel ((Bel.refl wr).alloc (.cells (GLaw17Act.enc x).toArray 185)) _))
      have HBR := Lib.hid hBr
      have hrl := hB.ltr; have hhl := hB.lth
      have hlt2 : (k : Int) < (n : Int) := by omega
      have hlt3 : (k : Int) < 40 := by omega
      have hk0 : (0 : Int) ≤ (k : Int) := by omega
      clear hxk hB hC hB2 hBr
      go_upto_region 5 with fail
      change Hid (get? GLaw17Act (wr.alloc (.cells (GLaw17Act.enc x).toArray 185)) ⟨wr.heap.size, 0, none⟩ = some x) at HG
      obtain ⟨ga, hga⟩ : ∃ ga, wr.heap.size = ga := ⟨_, rfl⟩
      rw [hga] at hrl hhl HG ⊢
      generalize wr.alloc (.cells (GLaw17Act.enc x).toArray 185) = w1 at HG HC HBR ⊢
      clear hga
      obtain ⟨f0, f1, f2, f3, f4, f5, f6⟩ := act_cells HG.out
      go_wp2_with fail
      refine (nameA_any x.name _ _ hf1 (by unfold wrap64; omega) (by unfold wrap64; omega)).mono ?_
      rintro _ w2 ⟨s, rfl, hs, hb2⟩
      have HG2 := Lib.hid (GB.get hb2 HG.out); have HC2 := Lib.hid (HC.out.tr (Chg.of_bel hb2 _)); have HB2 := Lib.hid (HBR.out.bel hb2)
      clear f0 f1 f2 f3 f4 f5 f6 hb2 HG HC HBR
      obtain ⟨f0, f1, f2, f3, f4, f5, f6⟩ := act_cells HG2.out
      have hsm : s.size ≤ maxLen := by unfold maxLen; omega
      go_upto_region 6 with fail
      go_cut [10, 11] (fun v1 v2 wx => ∃ t u : Int, v1 = .int .u64 t ∧ v2 = .int .u64 u ∧ (0 ≤ t ∧ t ≤ 18446744073709551615) ∧ (0 ≤ u ∧ u ≤ 18446744073709551615) ∧ ∃ nq, wx = w2.drewN nq)
      case first => as_aux_lemma =>
        go_wp2_with fail
        go_big_quiet (fail)
        go_wp2_with fail
        go_meet
        exact ⟨_, _, rfl, rfl, ⟨ht1, ht2⟩, ⟨hu1, hu2⟩, _, rfl⟩
      case rest =>
      obtain ⟨t0, u0, rfl, rfl, ⟨ht1, ht2⟩, ⟨hu1, hu2⟩, nq, hwx⟩ := hcut
      have HG3 := Lib.hid (show get? GLaw17Act wc ⟨ga, 0, none⟩ = some x by rw [hwx]; exact HG2.out)
      have HC3 := Lib.hid (show Chg (fun q => q = r ∨ q = h) w wc by rw [hwx]; exact HC2.out.tr (Chg.of_bel ((Bel.refl _).drewN _) _))
      have HB3 := Lib.hid (show BothH wc g r h H R (kk + k) by rw [hwx]; exact HB2.out.bel ((Bel.refl _).drewN _))
      obtain ⟨w4, rfl⟩ : ∃ w', w' = wc := ⟨_, rfl⟩
      clear f0 f1 f2 f3 f4 f5 f6 HG2 HC2 HB2 hwx
      go_upto_if 45 with fail
      go_cut [10] (fun v wx => ∃ t : Int, v = .int .u64 t ∧ wx = w4)
      case first => as_aux_lemma =>
        by_cases h8 : t0 % 9 = 8
        · go_wp2_with fail
          go_meet
          exact ⟨_, rfl, rfl⟩
        · go_wp2_with fail
          go_meet
          exact ⟨_, rfl, rfl⟩
      case rest =>
      obtain ⟨t, rfl, hw4⟩ := hcut
      obtain rfl : w4 = wc := hw4.symm
      go_upto_if 50 with fail
      go_cut [11] (fun v wx => ∃ u : Int, v = .int .u64 u ∧ wx = w4)
      case first => as_aux_lemma =>
        by_cases h8 : u0 % 9 = 8
        · go_wp2_with fail
          go_meet
          exact ⟨_, rfl, rfl⟩
        · go_wp2_with fail
          go_meet
          exact ⟨_, rfl, rfl⟩
      case rest =>
      obtain ⟨u, rfl, hw4⟩ := hcut
      obtain rfl : w4 = wc := hw4.symm
      clear ht1 ht2 hu1 hu2 t0 u0
      obtain ⟨q, hq, hq0, hq1⟩ : ∃ q, within x.do_ 9 = q ∧ 0 ≤ q ∧ q < 9 := by
        refine ⟨_, rfl, ?_, ?_⟩ <;> unfold within <;> rw [if_neg (by omega)]
        · exact Int.emod_nonneg _ (by omega)
        · exact Int.emod_lt_of_pos _ (by omega)
      have HQ := Lib.hid hq; clear hq
      obtain ⟨f0, f1, f2, f3, f4, f5, f6⟩ := act_cells HG3.out
      go_wp2_with fail
      refine (within_is x.do_ 9 q _ HQ.out (by omega) hd1 hd2).mono ?_
      rintro _ w5 ⟨rfl, h5⟩
      obtain rfl : w4 = w5 := by first | exact h5 | exact h5.symm
      go_upto_block 2 with fail
      go_cut [12] (fun v wx => v = .bool true ∧ ActR w4 wx g r h (kk + k + 1))
      case first => as_aux_lemma =>
        have HB4 := HB3
        have f1 : ∀ _ : Unit, w4.cell? ⟨ga, 1, none⟩ = some (.int .i64 x.client) := fun _ => f1
        have f2 : ∀ _ : Unit, w4.cell? ⟨ga, 2, none⟩ = some (.int .i64 x.n) := fun _ => f2
        have f6 : ∀ _ : Unit, w4.cell? ⟨ga, 6, none⟩ = some (.bool x.vickrey) := fun _ => f6
        rcases (by omega : (q = 0 ∨ q = 1) ∨ (q = 6 ∨ q = 7) ∨ q = 8 ∨ (q ≠ 0 ∧ q ≠ 1 ∧ q ≠ 6 ∧ q ≠ 7 ∧ q ≠ 8)) with hc | hc | rfl | ⟨n0, n1, n6, n7, n8⟩
        · rcases hc with rfl | rfl
          all_goals
          go_wp2_with fail
          refine wp_region_H GB (Chg (fun q => q = r ∨ q = h)) [8, 17, 18, 19] [] GB.rf (by kernel_rfl) ?_
          refine wpH_looks 4 20 [0,1,2,3,4,5,6,7,9,10,11,12,13,14,15,16] rfl GB.rf GB.tr (Chg.refl _) (fun _ _ _ h k => h.tr k) (fun _ _ h => Chg.of_bel h _) (by kernel_rfl) (fun _ _ _ _ hd h => And.intro (hd ▸ And.left h) (And.right h)) rfl (by kernel_rfl) ?_
          intro ι W hne CW
          have k1 : ∀ z, (W z).cell? ⟨ga, 1, none⟩ = some (.int .i64 x.client) := fun z => (CW.out z).cell (f1 ()) (by rintro (e | e) <;> simp only at e <;> omega)
          have k2 : ∀ z, (W z).cell? ⟨ga, 2, none⟩ = some (.int .i64 x.n) := fun z => (CW.out z).cell (f2 ()) (by rintro (e | e) <;> simp only at e <;> omega)
          have k6 : ∀ z, (W z).cell? ⟨ga, 6, none⟩ = some (.bool x.vickrey) := fun z => (CW.out z).cell (f6 ()) (by rintro (e | e) <;> simp only at e <;> omega)
          repeat (refine wpLooksG_step (fun K hK => ?_); go_simp; refine hK _ ?_; clear hK K)
          refine wpLooksG_nil ?_
          clear k1 k2 k6 CW hne W ι
          refine wpH_force 8 _ rfl (by kernel_rfl) rfl fun wa hwa K hK => ?_
          go_simp
          have bA := HB4.out.bel (GB.undrew hwa)
          refine (open_any ⟨g, 0, none⟩ r H s x.vickrey x.n t u wa bA.house bA.ne hsm (by have := bA.good.1; unfold maxLen; omega)).mono ?_
          rintro _ wb ⟨rfl, hHb, hgb⟩
          refine hK _ _ (fun h => absurd (by simp) h) (fun _ => Chg.of_grown hgb fun q e => .inl (by injection e with e; exact e.symm)) ?_
          clear hK K
          refine wpH_force 17 _ rfl (by kernel_rfl) rfl fun wd hwd K hK => ?_
          go_simp
          have hgd : GX r wa wd := GX.tr _ _ _ hgb (GX.of_bel hwd r)
          have hRd := bA.mid hgd
          refine (ropen_any h H R s x.vickrey x.n t u wd (hRd.bel (Bel.refl _)) bA.twin hsm (bA.big (by omega)).1).mono ?_
          rintro _ we ⟨rfl, R', hT', hR', hce⟩
          have hact := bA.act hgd (hHb.step hwd) (bA.good.openH s x.vickrey x.n t u) hT' hR' hce
          refine hK _ _ (fun h => absurd (by simp) h) (fun _ => hce.sub fun _ e => .inr e) ?_
          clear hK K
          obtain ⟨res, hres⟩ : ∃ z, openR H s x.n t u = z := ⟨_, rfl⟩
          rw [hres]
          clear hres
          refine wpH_force 18 _ rfl (by kernel_rfl) rfl fun wf hwf K hK => ?_
          go_simp
          refine hK _ _ (fun h => absurd (by simp) h) (fun _ => Chg.refl _ _) ?_
          clear hK K
          refine wpH_force 19 _ rfl (by kernel_rfl) rfl fun wg hwg K hK => ?_
          go_simp
          refine hK _ _ (fun h => absurd (by simp) h) (fun _ => Chg.refl _ _) ?_
          clear hK K
          refine wpH_end (by kernel_rfl) (fun wn hwn => ?_) _
          have hbn : Bel we wn := GB.tr _ _ _ (GB.tr _ _ _ hwf hwg) hwn
          have HACT := Lib.hid (show ActR w4 wn g r h (kk + k + 1) from ⟨_, R', (hact.1.bel hbn).mono (by omega), ((Chg.of_bel (GB.undrew hwa) _).tr hact.2).tr (Chg.of_bel hbn _)⟩)
          clear hact hbn hwn hwg hwf hce hR' hT' hRd hgd hwd hgb hHb bA hwa
          go_wp2_with fail
          go_meet
          exact ⟨rfl, HACT.out⟩
        · rcases hc with rfl | rfl
          all_goals
          go_wp2_with fail
          refine (settle_any ⟨g, 0, none⟩ r H u w4 HB3.out.house HB3.out.ne HB3.out.twin.named (HB3.out.big (by omega)).2.1 (HB3.out.big (by omega)).2.2.1).mono ?_
          rintro _ wa ⟨D, v, rfl, hDp, hDs, hov, hHa, hga⟩
          have HDP := Lib.hid hDp; have HDS := Lib.hid hDs; have HOV := Lib.hid hov; have HHA := Lib.hid hHa; have HGA := Lib.hid hga
          have hlt4 := HB3.out.lth
          clear hDp hDs hov hHa hga
          go_wp2_with fail
          refine (rsettle_any h H R u wa (HB3.out.mid HGA.out) HB3.out.twin (HB3.out.big (by omega)).1 (HB3.out.big (by omega)).2.2.2.1).mono ?_
          rintro _ wb ⟨D', v', rfl, hDp', hDs', hov', hRb, hcb⟩
          obtain rfl := HB3.out.twin.due HDP.out HDS.out hDp' hDs'
          have hact := HB3.out.act HGA.out HHA.out (HB3.out.good.settleH u) (HB3.out.twin.settle u) hRb hcb
          have hovb := OwnS.chg HOV.out hcb (fun z hz e => by have := (HOV.out.lt z hz).1; omega)
          have hDl : D.length ≤ 64 := by
            have h1 := HDP.out.length_eq
            have h2 : (dueM H u).length ≤ H.length := by unfold dueM; rw [List.length_map]; exact List.length_filter_le _ _
            have := HB3.out.good.1
            omega
          obtain ⟨A6, c6, hv6, hoa6, _, _⟩ := OwnS.ownA hovb
          obtain ⟨A7, c7, hv7, hoa7, _, _⟩ := OwnS.ownA hov'
          have hs6 := hoa6.sl
          have hs7 := hoa7.sl
          rw [List.length_map] at hv6 hv7 hs6 hs7
          subst hv6; subst hv7
          have e7 : (D.map fun x => rr (endR x)) = (D.map endR).map rr := by rw [List.map_map]; rfl
          rw [e7] at hs7
          have HS6 := Lib.hid hs6; have HS7 := Lib.hid hs7; have HACT := Lib.hid hact
          clear hs6 hs7 hact hoa6 hoa7 hovb hov' hRb hcb hDp' hDs' e7 HOV
          go_wp2_with fail
          refine (results_any A6 A7 D.length c6 c7 (D.map endR) wb HS6.out HS7.out (by unfold maxLen; omega)).mono ?_
          rintro _ wd ⟨rfl, hbd⟩
          have HACT2 := Lib.hid (show ActR w4 wd g r h (kk + k + 1) from ⟨_, _, (HACT.out.1.bel hbd).mono (by omega), HACT.out.2.tr (Chg.of_bel hbd _)⟩)
          clear hbd
          go_wp2_with fail
          go_meet
          exact ⟨rfl, HACT2.out⟩
        · go_wp2_with fail
          refine (result_any ⟨g, 0, none⟩ r H s w4 HB3.out.house).mono ?_
          rintro _ wa ⟨rfl, hba⟩
          obtain ⟨⟨y, ey⟩, hye⟩ : ∃ p, resultR H s = p := ⟨_, rfl⟩
          have HYE := Lib.hid hye
          rw [hye]
          have HBA := Lib.hid hba
          have HK1 := Lib.hid (get?_new (w := wa) 59 y)
          clear hba hye
          go_upto_region 22 with fail
          have hba2 : Bel w4 (wa.alloc (.cells (GAuctionResult.enc y).toArray 59)) := HBA.out.alloc _
          have HBA2 := Lib.hid hba2
          change Hid (get? GAuctionResult (wa.alloc (.cells (GAuctionResult.enc y).toArray 59)) ⟨wa.heap.size, 0, none⟩ = some y) at HK1
          clear hba2
          generalize wa.alloc (.cells (GAuctionResult.enc y).toArray 59) = wb at HBA2 HK1 ⊢
          obtain ⟨ya, hya⟩ : ∃ ya, wa.heap.size = ya := ⟨_, rfl⟩
          rw [hya] at HK1 ⊢
          clear hya
          go_wp2_with fail
          refine (rresult_any h H R s wb (HB3.out.ref.bel HBA2.out) HB3.out.twin (HB3.out.big (by omega)).1).mono ?_
          rintro _ wd ⟨rfl, hbd⟩
          rw [HYE.out]
          have HK2 := Lib.hid (GB.get hbd HK1.out)
          have HBD := Lib.hid (HBA2.out.trans hbd)
          have hv := rr_val y
          have k1 : get? GAuctionResult (wd.alloc (.cells (GRef15Result.enc (rr y)).toArray 190)) ⟨ya, 0, none⟩ = some y := get?_alloc _ HK2.out
          have k2 : get? GRef15Result (wd.alloc (.cells (GRef15Result.enc (rr y)).toArray 190)) ⟨wd.heap.size, 0, none⟩ = some (rr y) := get?_new (w := wd) 190 (rr y)
          clear hbd
          go_wp2_with fail
          go_meet
          exact ⟨rfl, ActR.mono (ActR.of HB3.out (HBD.out.alloc _)) (by omega)⟩
        · go_wp2_with fail
          refine wp_region_H GB (Chg (fun q => q = r ∨ q = h)) [7, 15, 16, 17] [] GB.rf (by kernel_rfl) ?_
          refine wpH_looks 4 18 [0,1,2,3,4,5,6,8,9,10,11,12,13,14] rfl GB.rf GB.tr (Chg.refl _) (fun _ _ _ h k => h.tr k) (fun _ _ h => Chg.of_bel h _) (by kernel_rfl) (fun _ _ _ _ hd h => And.intro (hd ▸ And.left h) (And.right h)) rfl (by kernel_rfl) ?_
          intro ι W hne CW
          have k1 : ∀ z, (W z).cell? ⟨ga, 1, none⟩ = some (.int .i64 x.client) := fun z => (CW.out z).cell (f1 ()) (by rintro (e | e) <;> simp only at e <;> omega)
          have k2 : ∀ z, (W z).cell? ⟨ga, 2, none⟩ = some (.int .i64 x.n) := fun z => (CW.out z).cell (f2 ()) (by rintro (e | e) <;> simp only at e <;> omega)
          have k6 : ∀ z, (W z).cell? ⟨ga, 6, none⟩ = some (.bool x.vickrey) := fun z => (CW.out z).cell (f6 ()) (by rintro (e | e) <;> simp only at e <;> omega)
          repeat (refine wpLooksG_step (fun K hK => ?_); go_simp; refine hK _ ?_; clear hK K)
          refine wpLooksG_nil ?_
          clear k1 k2 k6 CW hne W ι
          refine wpH_force 7 _ rfl (by kernel_rfl) rfl fun wa hwa K hK => ?_
          go_simp
          have bA := HB4.out.bel (GB.undrew hwa)
          refine (bid_any ⟨g, 0, none⟩ r H s x.client x.n u wa bA.house bA.ne (fun y hy => (bA.big (by omega)).2.2.2.2.2 s y hy)).mono ?_
          rintro _ wb ⟨rfl, hHb, hgb⟩
          refine hK _ _ (fun h => absurd (by simp) h) (fun _ => Chg.of_grown hgb fun q e => .inl (by injection e with e; exact e.symm)) ?_
          clear hK K
          refine wpH_force 15 _ rfl (by kernel_rfl) rfl fun wd hwd K hK => ?_
          go_simp
          have hgd : GX r wa wd := GX.tr _ _ _ hgb (GX.of_bel hwd r)
          have hRd := bA.mid hgd
          refine (rbid_any h H R s x.client x.n u wd (hRd.bel (Bel.refl _)) bA.twin (bA.big (by omega)).1 (fun y hy => (bA.big (by omega)).2.2.2.2.2 s y hy)).mono ?_
          rintro _ we ⟨rfl, R', hT', hR', hce⟩
          have hact := bA.act hgd (hHb.step hwd) (bA.good.bidH s x.client x.n u) hT' hR' hce
          refine hK _ _ (fun h => absurd (by simp) h) (fun _ => hce.sub fun _ e => .inr e) ?_
          clear hK K
          obtain ⟨res, hres⟩ : ∃ z, bidR H s x.client x.n u = z := ⟨_, rfl⟩
          rw [hres]
          clear hres
          refine wpH_force 16 _ rfl (by kernel_rfl) rfl fun wf hwf K hK => ?_
          go_simp
          refine hK _ _ (fun h => absurd (by simp) h) (fun _ => Chg.refl _ _) ?_
          clear hK K
          refine wpH_force 17 _ rfl (by kernel_rfl) rfl fun wg hwg K hK => ?_
          go_simp
          refine hK _ _ (fun h => absurd (by simp) h) (fun _ => Chg.refl _ _) ?_
          clear hK K
          refine wpH_end (by kernel_rfl) (fun wn hwn => ?_) _
          have hbn : Bel we wn := GB.tr _ _ _ (GB.tr _ _ _ hwf hwg) hwn
          have HACT := Lib.hid (show ActR w4 wn g r h (kk + k + 1) from ⟨_, R', (hact.1.bel hbn).mono (by omega), ((Chg.of_bel (GB.undrew hwa) _).tr hact.2).tr (Chg.of_bel hbn _)⟩)
          clear hact hbn hwn hwg hwf hce hR' hT' hRd hgd hwd hgb hHb bA hwa
          go_wp2_with fail
          go_meet
          exact ⟨rfl, HACT.out⟩
      case rest =>
      obtain ⟨rfl, H', R', hB5, hC5⟩ := hcut
      obtain ⟨w5, rfl⟩ : ∃ w', w' = wc := ⟨_, rfl⟩
      have HC5 := Lib.hid (HC3.out.tr hC5); have HB5 := Lib.hid hB5
      clear f0 f1 f2 f3 f4 f5 f6 hB5 hC5 HB3 HC3 HG3
      have HBG := Lib.hid (HB5.out.big (by omega))
      have HL5 := Lib.hid (show (namesR R').length ≤ 64 by have := HB5.out.twin.len; have := HB5.out.good.1; rw [namesR_len]; omega)
      go_wp2_with fail
      refine (namesR_any ⟨g, 0, none⟩ r H' R' w5 HB5.out.house HB5.out.twin HBG.out.2.2.2.2.1 HBG.out.2.1).mono ?_
      rintro _ w6 ⟨v6, rfl, ho6, hb6⟩
      have HO6 := Lib.hid ho6; have HB6 := Lib.hid hb6
      clear ho6 hb6
      go_wp2_with fail
      refine (rnames_any h R' w6 (HB5.out.ref.bel HB6.out) HBG.out.1).mono ?_
      rintro _ w7 ⟨v7, rfl, ho7, hb7⟩
      obtain ⟨A6, c6, hv6, hoa6, _, _⟩ := OwnS.ownA (HO6.out.step hb7)
      obtain ⟨A7, c7, hv7, hoa7, _, _⟩ := OwnS.ownA ho7
      obtain ⟨nl, hnl⟩ : ∃ nl, (strL (namesR R')).length = nl := ⟨_, rfl⟩
      have hnl2 : nl ≤ 64 := by rw [← hnl, strL_len]; exact HL5.out
      have hs6 := hoa6.sl
      have hs7 := hoa7.sl
      rw [hnl] at hv6 hv7 hs6 hs7
      subst hv6; subst hv7
      have HS6 := Lib.hid hs6; have HS7 := Lib.hid hs7; have HB7 := Lib.hid (HB6.out.trans hb7)
      clear hs6 hs7 hoa6 hoa7 ho7 hb7 hnl HO6 HB6
      go_wp2_with fail
      refine (sameStr_any A6 A7 nl c6 c7 (strL (namesR R')) w7 HS6.out HS7.out (by unfold maxLen; omega)).mono ?_
      rintro _ w8 ⟨rfl, hb8⟩
      have HB8 := Lib.hid (HB5.out.bel (HB7.out.trans hb8)); have HC8 := Lib.hid (HC5.out.tr (Chg.of_bel (HB7.out.trans hb8) _))
      clear hb8
      obtain ⟨nb, hnb⟩ : ∃ nb, bidsN H' s = nb := ⟨_, rfl⟩
      have HNB := Lib.hid hnb
      clear hnb
      go_wp2_with fail
      refine (bids_any ⟨g, 0, none⟩ r H' s w8 HB8.out.house).mono ?_
      rintro _ w9 ⟨rfl, h9⟩
      obtain rfl : w8 = w9 := by first | exact h9 | exact h9.symm
      rw [HNB.out]
      go_wp2_with fail
      refine (rbids_any h H' R' s w8 HB8.out.ref HB8.out.twin HBG.out.1).mono ?_
      rintro _ w9 ⟨rfl, h9⟩
      obtain rfl : w8 = w9 := by first | exact h9 | exact h9.symm
      rw [HNB.out]
      go_wp2_with fail
      exact ⟨⟨k + 1, by omega, by omega, by go_num, H', R', HB8.out, HC8.out⟩, by simp [intOf]; omega⟩
    · have hact2 := Lib.hid (ActR.mono ⟨H, R, hB, hC⟩ (show kk + k ≤ kk + 40 by omega))
      have hstop : (n : Int) ≤ (k : Int) ∨ ((k : Int) < (n : Int) ∧ 40 ≤ (k : Int)) := by omega
      rcases hstop with hs | ⟨hs, hs2⟩
      all_goals
      go_wp2_with fail
      go_ret
      exact ⟨rfl, hact2.out⟩
end Go.Proofs.Yteockodnfempfaa
/- AuctionPlays returns true, walked. Conditions: those named in each theorem. -/
namespace Go.Proofs.Yteockodnfempfaa
open Go Go.RowKit Go.Gv Go.Sort

@[go_sem ↓ high] theorem build_rhouse_none (w : World) : (gBuild 135 #[]).run Try.prog w = .ok (GRef15House.val ⟨⟨none, 0, 0⟩⟩) w := by
  rw [GRef15House.val_eq]
  exact run_gBuild_of uu135 zr135 pl135 rfl w
theorem BothH.ltg {w : World} {g r h kk : Nat} {H : MHouse} {R : List MSale} (b : BothH w g r h H R kk) : g < w.heap.size := World.block_lt_of_cell? w _ b.house.1
set_option maxRecDepth 100000 in
set_option maxHeartbeats 4000000 in
theorem plays_any (A : Option Addr) (n c : Nat) (xs : List GLaw17Act) (B : Option Addr) (m d : Nat) (ys : List GLaw17Act) (w : World) (hx : Sl GLaw17Act w w.heap.size A n xs) (hox : ∀ x ∈ xs, FitAct x) (hn : n ≤ maxLen)
    (hy : Sl GLaw17Act w w.heap.size B m ys) (hoy : ∀ x ∈ ys, FitAct x) (hm : m ≤ maxLen) :
    Calls Try.prog 20 #[.slice A n c, .slice B m d] w fun e w' => e = .returned (.bool true) ∧ Bel w w' := by
  have HX := Lib.hid hx; have HOX := Lib.hid hox; have HY := Lib.hid hy; have HOY := Lib.hid hoy; have HN := Lib.hid hn; have HM := Lib.hid hm
  clear hx hox hy hoy hn hm
  go_enter Try.func20, Try.ntmps20
  go_wp2_with fail
  refine (new_any _).mono ?_
  rintro _ w1 ⟨g, r, rfl, hH, hg, hr, hne, hlt, hb⟩
  have HH := Lib.hid hH; have HB := Lib.hid hb; clear hH hb
  have hz1 := HB.out.size
  have hb2 := (Bel.refl w1).alloc (.cells (GRef15House.enc ⟨⟨none, 0, 0⟩⟩).toArray 135)
  have hR0 : RHouseIs (w1.alloc (.cells (GRef15House.enc ⟨⟨none, 0, 0⟩⟩).toArray 135)) w1.heap.size [] := ⟨⟨none, 0, 0⟩, [], heap_alloc_new w1 _, Sl.nil, Nat.le_refl _, Nat.zero_le _, trivial⟩
  have hBo : BothH (w1.alloc (.cells (GRef15House.enc ⟨⟨none, 0, 0⟩⟩).toArray 135)) g r w1.heap.size [] [] 0 := ⟨HH.out.step hb2, hR0, Twin.nil, hne, GoodH.nil 0⟩
  have HBO := Lib.hid hBo; have HB2 := Lib.hid (HB.out.trans hb2)
  clear hb2 hR0 hBo
  go_wp2_with fail
  have HB0 := Lib.hid (show w.heap.size ≤ w1.heap.size from hz1)
  generalize hw2 : w1.alloc (.cells (GRef15House.enc ⟨⟨none, 0, 0⟩⟩).toArray 135) = w2 at HBO HB2 ⊢
  clear hw2
  refine (playA_any g r w1.heap.size [] [] 0 A n c xs w w2 HX.out HOX.out HN.out HB2.out HBO.out (by omega) hr hz1).mono ?_
  rintro _ w3 ⟨rfl, H, R, hB3, hC3⟩
  have hS : ∀ q, (q = r ∨ q = w1.heap.size) → w.heap.size ≤ q := fun q hq => by rcases hq with rfl | rfl <;> assumption
  have HS := Lib.hid hS
  have HB3 := Lib.hid hB3; have HW3 := Lib.hid (Chg.bel2 HB2.out hC3 hS)
  have hz3 := HW3.out.size
  clear hB3 hC3 hS
  go_wp2_with fail
  refine (cloneHouse_any g r H w3 HB3.out.house).mono ?_
  rintro _ w4 ⟨g', r', rfl, hH4, hg', hr', hne', hb4⟩
  have HH4 := Lib.hid hH4; have HB4 := Lib.hid hb4
  have hz4 := hb4.size
  clear hH4 hb4
  go_wp2_with fail
  refine (rcopyH_any w1.heap.size R w4 (HB3.out.ref.bel HB4.out) (HB3.out.big (by omega)).1).mono ?_
  rintro _ w5 ⟨h', rfl, hR5, hh', hb5⟩
  have HB5 := Lib.hid (show BothH w5 g' r' h' H R 40 from ⟨HH4.out.step hb5, hR5, HB3.out.twin, hne', HB3.out.good⟩)
  have HK5 := Lib.hid (HB3.out.bel (HB4.out.trans hb5)); have HW5 := Lib.hid ((HW3.out.trans HB4.out).trans hb5)
  have hlg := HB3.out.ltg; have hlr := HB3.out.ltr; have hlh := HB3.out.lth
  have hz5 := HW5.out.size
  clear hR5 hb5 HH4
  go_wp2_with fail
  refine (playA_any g' r' h' H R 40 B m d ys w w5 HY.out HOY.out HM.out HW5.out HB5.out (by omega) (by omega) (by omega)).mono ?_
  rintro _ w6 ⟨rfl, hA6⟩
  have HK6 := Lib.hid (show BothH w6 g r w1.heap.size H R 40 from by
    obtain ⟨_, _, _, hC6⟩ := hA6
    exact HK5.out.off HB5.out.odds hC6 (by rintro (e | e) <;> omega) (by rintro (e | e) <;> omega) (by rintro (e | e) <;> omega))
  have HW6 := Lib.hid (show Bel w w6 from by
    obtain ⟨_, _, _, hC6⟩ := hA6
    exact Chg.bel2 HW5.out hC6 (fun q hq => by rcases hq with rfl | rfl <;> omega))
  clear hA6 HB5 HK5
  go_wp2_with fail
  refine (playA_any g r w1.heap.size H R 40 A n c xs w w6 HX.out HOX.out HN.out HW6.out HK6.out (by omega) hr hz1).mono ?_
  rintro _ w7 ⟨rfl, hA7⟩
  have HW7 := Lib.hid (show Bel w w7 from by
    obtain ⟨_, _, _, hC7⟩ := hA7
    exact Chg.bel2 HW6.out hC7 HS.out)
  clear hA7 HK6
  go_wp2_with fail
  refine (wakesA_any _).mono ?_
  rintro _ w8 ⟨rfl, hb8⟩
  have HB8 := Lib.hid (HW7.out.trans hb8); clear hb8
  go_wp2_with fail
  go_ret
  exact ⟨rfl, HB8.out⟩
end Go.Proofs.Yteockodnfempfaa
