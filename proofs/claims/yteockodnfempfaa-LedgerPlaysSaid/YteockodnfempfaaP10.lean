/- What Apply computes, when it takes a batch. Conditions: those named in each theorem. -/
import Derived.Test.YteockodnfempfaaP9
import Derived.Test.YteockodnfempfaaP3
import Derived.Shelf.SlSortCmp.NoneTotal
import Derived.Sort.Walk0
/- The order in which a batch's entries are sorted. Conditions: those named in each theorem. -/
namespace Go.Proofs.Yteockodnfempfaa
open Go Go.RowKit Go.Gv Go.Sort

theorem GrewD.tr (a b c : World) (h : GrewD a b) (k : GrewD b c) : GrewD a c := by
  obtain ⟨q, os, rfl⟩ := h
  obtain ⟨q', os', rfl⟩ := k
  refine ⟨q + q', os ++ os', ?_⟩
  rw [← grow_grow]
  unfold grow World.drewN
  simp [Nat.add_assoc]
theorem GrewD.bel {a b : World} (h : GrewD a b) : Bel a b := by
  obtain ⟨q, os, rfl⟩ := h
  unfold grow World.drewN
  exact ⟨rfl, rfl, rfl, by simp, fun k hk => by simp only [Array.getElem?_append_left hk]⟩
set_option maxRecDepth 100000 in
set_option maxHeartbeats 400000 in
theorem beforeG_any (a b : GName) (w : World) :
    Calls Try.prog 69 #[a.val, b.val] w fun e w' => e = .returned (.int .i64 (beforeI a b)) ∧ GrewD w w' := by
  go_enter Try.func69, Try.ntmps69
  go_wp2
  refine wp_region_tail 10 (by kernel_rfl) (by kernel_rfl) ?_
  simp only [List.take_succ_cons, List.take_zero, List.drop_succ_cons, List.drop_zero]
  repeat still_step
  still_call (flipC (compare_any _ _ _))
  repeat still_step
  still_call (flipC (compare_any _ _ _))
  refine wpStill_nil ?_
  go_wp2_with fail
  refine (or_any _ _ _ [⟨cmpI a.client b.client⟩, ⟨cmpI a.seq b.seq⟩] _ (w.heap.size + 1 + 1 + 1) ?_ (by decide)).mono ?_
  · exact Sl.drew_ (Sl.new_ rfl rfl (by simp only [World.size_alloc]) (by omega))
  · rintro e w' ⟨rfl, rfl⟩
    go_wp2
    go_ret
    exact ⟨ret_int rfl, ((((GrewD.refl _).alloc _).alloc _).alloc _).drew⟩
def entCmp (x y : GEntry) : Int := orI [cmpI x.time y.time, beforeI x.name y.name]
theorem GrewD.undrew {w w' : World} (h : GrewD w.drew w') : GrewD w w' := by
  have : GrewD w w.drew := (GrewD.refl w).drew
  exact GrewD.tr _ _ _ this h
set_option maxRecDepth 100000 in
set_option maxHeartbeats 1000000 in
theorem entFn_any (x y : GEntry) (w : World) :
    Calls Try.prog 119 #[x.val, y.val] w fun e w' => e = .returned (.int .i64 (entCmp x y)) ∧ GrewD w w' := by
  have h1 := get?_alloc (.cells y.enc.toArray 30) (get?_new (w := w) 30 x)
  have h2 := get?_new (w := w.alloc (.cells x.enc.toArray 30)) 30 y
  rw [World.size_alloc] at h2
  have HG := Lib.hid (((GrewD.refl w).alloc (.cells x.enc.toArray 30)).alloc (.cells y.enc.toArray 30))
  go_enter Try.func119, Try.ntmps119
  go_wp2_with fail
  generalize (w.alloc (.cells x.enc.toArray 30)).alloc (.cells y.enc.toArray 30) = w2 at h1 h2 HG ⊢
  have k1 := GEntry.at_name h1
  have k2 := GEntry.at_name h2
  rw [Addr.add_zero'] at k1 k2
  have t1 : w2.cell? ⟨w.heap.size, 34, none⟩ = some (.int .u64 x.time) := by simpa using cell_off (by omega) (GEntry.at_time h1)
  have t2 : w2.cell? ⟨w.heap.size + 1, 34, none⟩ = some (.int .u64 y.time) := by simpa using cell_off (by omega) (GEntry.at_time h2)
  clear h1 h2
  refine wp_region_G GrewD [] GrewD.refl (by kernel_rfl) ?_
  refine wpG_looks 3 13 [0,1,2,3,4,5,6,7,8,9] rfl GrewD.refl GrewD.tr (by kernel_rfl) (fun _ _ _ _ hd h => And.intro (hd ▸ And.left h) (And.right h)) rfl (by kernel_rfl) ?_
  intro ι W hne CW
  have g1 : ∀ z, get? GName (W z) ⟨w.heap.size, 0, none⟩ = some x.name := fun z => GB.get (CW.out z).bel k1
  have g2 : ∀ z, get? GName (W z) ⟨w.heap.size + 1, 0, none⟩ = some y.name := fun z => GB.get (CW.out z).bel k2
  have g3 : ∀ z, (W z).cell? ⟨w.heap.size, 34, none⟩ = some (.int .u64 x.time) := fun z => GB.cell (CW.out z).bel t1
  have g4 : ∀ z, (W z).cell? ⟨w.heap.size + 1, 34, none⟩ = some (.int .u64 y.time) := fun z => GB.cell (CW.out z).bel t2
  have hq : ∀ z, Calls Try.prog 78 #[.int .u64 x.time, .int .u64 y.time] (W z) (fun e w'' => e = .returned (.int .i64 (cmpI x.time y.time)) ∧ GrewD (W z) w'') := fun z => (compareU_any x.time y.time (W z)).mono (fun _ _ h => ⟨h.1, h.2 ▸ GrewD.refl _⟩)
  repeat (refine wpLooksG_step (fun K hK => ?_); go_simp; refine hK _ ?_; clear hK K)
  refine wpLooksG_step (fun K hK => ?_); go_simp
  refine ⟨_, hq, hK _ ?_⟩
  clear hK K
  repeat (refine wpLooksG_step (fun K hK => ?_); go_simp; refine hK _ ?_; clear hK K)
  refine wpLooksG_step (fun K hK => ?_); go_simp
  refine ⟨_, fun z => beforeG_any x.name y.name (W z), hK _ ?_⟩
  clear hK K
  refine wpLooksG_nil ?_
  clear g1 g2 g3 g4 hq CW hne W ι
  refine wpG_force 10 _ rfl (by kernel_rfl) rfl fun wa hwa K hK => ?_
  go_simp
  refine hK _ _ (fun _ => (GrewD.refl _).alloc _) ?_
  clear hK K
  refine wpG_force 11 _ rfl (by kernel_rfl) rfl fun wb hwb K hK => ?_
  go_simp
  have hsz : wa.heap.size < wb.heap.size := by have := (GrewD.bel hwb).size; simp at this; omega
  have hsl : Sl I64 wb wb.heap.size (some ⟨wa.heap.size, 0, none⟩) 2 [⟨cmpI x.time y.time⟩, ⟨beforeI x.name y.name⟩] := ((Sl.new_ (B := wa.heap.size + 1) (w := wa) (t := 3) (cs := #[.int .i64 (cmpI x.time y.time), .int .i64 (beforeI x.name y.name)]) rfl rfl rfl (by omega)).below (Below.mono (GrewD.bel hwb) (by simp))).more hsz
  refine (or_any _ _ _ [⟨cmpI x.time y.time⟩, ⟨beforeI x.name y.name⟩] _ _ hsl (by decide)).mono ?_
  rintro _ wc ⟨rfl, rfl⟩
  refine hK _ _ (fun _ => GrewD.refl _) ?_
  clear hK K hsl
  refine wpG_force 12 _ rfl (by kernel_rfl) rfl fun wd hwd K hK => ?_
  go_simp
  refine hK _ _ (fun _ => GrewD.refl _) ?_
  clear hK K
  refine wpG_end (by kernel_rfl) (fun wn hwn => ?_) _
  have HN := Lib.hid (GrewD.tr _ _ _ HG.out (GrewD.tr _ _ _ (GrewD.tr _ _ _ (GrewD.tr _ _ _ ((GrewD.undrew hwa).alloc _) hwb) hwd) hwn))
  clear hwa hwb hwd hwn
  go_wp2_with fail
  go_ret
  exact ⟨ret_int rfl, HN.out⟩
end Go.Proofs.Yteockodnfempfaa
/- The library's functions at this program: which is which; printed by the kit's lay-plain. -/
namespace Go.Proofs.Yteockodnfempfaa
open Go Go.Proofs
open Go.Shelf
def Try.sortEnt_ren : Go.Shelf.Ren := ⟨fun | 6 => 118 | 15 => 111 | 14 => 145 | 28 => 140 | 29 => 141 | 20 => 159 | 21 => 160 | 22 => 161 | 23 => 162 | 24 => 163 | 25 => 164 | 26 => 165 | 27 => 166 | 46 => 182 | 47 => 150 | 48 => 151 | 49 => 183 | 50 => 184 | 57 => 191 | n => n, fun | 22 => 22 | 24 => 30 | 25 => 206 | 3 => 3 | 39 => 198 | 0 => 0 | 53 => 231 | 55 => 28 | 4 => 4 | 46 => 225 | 45 => 224 | 50 => 105 | 5 => 5 | 9 => 9 | 66 => 240 | 70 => 243 | 76 => 263 | 77 => 264 | n => n, fun | n => n⟩
theorem Try.sortEnt : Go.Proofs.SlLaysF0.n6 Try.prog Try.sortEnt_ren := {
  mixed := by kernel_rfl
  f6 := ⟨Try.f118.name, by decide, Try.func118.trans (congrArg some (by kernel_rfl))⟩
  f14 := ⟨Try.f145.name, by decide, Try.func145.trans (congrArg some (by kernel_rfl))⟩
  f15 := Try.func111.trans (congrArg some (by kernel_rfl))
  f20 := ⟨Try.f159.name, by decide, Try.func159.trans (congrArg some (by kernel_rfl))⟩
  f21 := ⟨Try.f160.name, by decide, Try.func160.trans (congrArg some (by kernel_rfl))⟩
  f22 := ⟨Try.f161.name, by decide, Try.func161.trans (congrArg some (by kernel_rfl))⟩
  f23 := ⟨Try.f162.name, by decide, Try.func162.trans (congrArg some (by kernel_rfl))⟩
  f24 := ⟨Try.f163.name, by decide, Try.func163.trans (congrArg some (by kernel_rfl))⟩
  f25 := ⟨Try.f164.name, by decide, Try.func164.trans (congrArg some (by kernel_rfl))⟩
  f26 := ⟨Try.f165.name, by decide, Try.func165.trans (congrArg some (by kernel_rfl))⟩
  f27 := ⟨Try.f166.name, by decide, Try.func166.trans (congrArg some (by kernel_rfl))⟩
  f28 := Try.func140.trans (congrArg some (by kernel_rfl))
  f29 := Try.func141.trans (congrArg some (by kernel_rfl))
  f46 := ⟨Try.f182.name, by decide, Try.func182.trans (congrArg some (by kernel_rfl))⟩
  f47 := Try.func150.trans (congrArg some (by kernel_rfl))
  f48 := Try.func151.trans (congrArg some (by kernel_rfl))
  f49 := ⟨Try.f183.name, by decide, Try.func183.trans (congrArg some (by kernel_rfl))⟩
  f50 := ⟨Try.f184.name, by decide, Try.func184.trans (congrArg some (by kernel_rfl))⟩
  f57 := ⟨Try.f191.name, by decide, Try.func191.trans (congrArg some (by kernel_rfl))⟩
  t0 := Try.underlying0
  a0 := Try.isAgg0
  z0 := Try.sizeOf0
  v0 := Try.zeroValue0
  t3 := Try.underlying3
  a3 := Try.isAgg3
  z3 := Try.sizeOf3
  v3 := Try.zeroValue3
  t4 := Try.underlying4
  a4 := Try.isAgg4
  z4 := Try.sizeOf4
  v4 := Try.zeroValue4
  t5 := Try.underlying5
  a5 := Try.isAgg5
  z5 := Try.sizeOf5
  v5 := Try.zeroValue5
  t9 := Try.underlying9
  a9 := Try.isAgg9
  z9 := Try.sizeOf9
  v9 := Try.zeroValue9
  t22 := Try.underlying22
  a22 := Try.isAgg22
  z22 := Try.sizeOf22
  v22 := Try.zeroValue22
  t25 := Try.underlying206
  a25 := Try.isAgg206
  z25 := Try.sizeOf206
  v25 := Try.zeroValue206
  t39 := Try.underlying198
  a39 := Try.isAgg198
  z39 := Try.sizeOf198
  v39 := Try.zeroValue198
  t45 := Try.underlying224
  a45 := Try.isAgg224
  z45 := Try.sizeOf224
  v45 := Try.zeroValue224
  t46 := Try.underlying225
  a46 := Try.isAgg225
  z46 := Try.sizeOf225
  v46 := Try.zeroValue225
  t50 := Try.underlying105
  a50 := Try.isAgg105
  z50 := Try.sizeOf105
  v50 := Try.zeroValue105
  t53 := Try.underlying231
  a53 := Try.isAgg231
  z53 := Try.sizeOf231
  v53 := Try.zeroValue231
  t55 := Try.underlying28
  a55 := Try.isAgg28
  z55 := Try.sizeOf28
  v55 := Try.zeroValue28
  t66 := Try.underlying240
  a66 := Try.isAgg240
  z66 := Try.sizeOf240
  v66 := Try.zeroValue240
  t70 := Try.underlying243
  a70 := Try.isAgg243
  z70 := Try.sizeOf243
  v70 := Try.zeroValue243
  t76 := Try.underlying263
  a76 := Try.isAgg263
  z76 := Try.sizeOf263
  v76 := Try.zeroValue263
  t77 := Try.underlying264
  a77 := Try.isAgg264
  z77 := Try.sizeOf264
  v77 := Try.zeroValue264 }
end Go.Proofs.Yteockodnfempfaa
/- What SortFunc at entries computes. Conditions: those named in each theorem. -/
namespace Go.Proofs.Yteockodnfempfaa
open Go Go.RowKit Go.Gv Go.Sort Go.Proofs

instance : Inhabited GEntry := ⟨default⟩
def nameLt (a b : GName) : Prop := a.client < b.client ∨ (a.client = b.client ∧ a.seq < b.seq)
/-- x stands ahead of y. -/
def entLt (x y : GEntry) : Prop := x.time < y.time ∨ (x.time = y.time ∧ nameLt x.name y.name)
theorem before_lt (a b : GName) : beforeI a b < 0 ↔ nameLt a b := by
  unfold beforeI orI nameLt cmpI
  by_cases h1 : a.client < b.client
  · simp [h1]
  · by_cases h2 : b.client < a.client
    · simp [h1, h2]; omega
    · have h3 : a.client = b.client := by omega
      by_cases h4 : a.seq < b.seq
      · simp [h3, h4]
      · by_cases h5 : b.seq < a.seq
        · simp [h3, h4, h5]
        · simp [h3, h4, h5]
theorem entLt_iff (x y : GEntry) : ltOf entCmp x y = true ↔ entLt x y := by
  unfold ltOf entCmp entLt
  rw [decide_eq_true_eq]
  have hb := before_lt x.name y.name
  by_cases h1 : x.time < y.time
  · simp [orI, cmpI, h1]
  · by_cases h2 : y.time < x.time
    · simp [orI, cmpI, h1, h2]; omega
    · have h3 : x.time = y.time := by omega
      by_cases h4 : beforeI x.name y.name = 0
      · rw [h4] at hb
        simp [orI, cmpI, h3, h4]
        exact fun h => absurd (hb.2 h) (by omega)
      · simp [orI, cmpI, h3, h4]
        exact hb
theorem entCmp_swo : SWO (ltOf entCmp) := by
  constructor
  · intro x
    rw [Bool.eq_false_iff]; intro h
    have := (entLt_iff _ _).1 h
    unfold entLt nameLt at this
    omega
  · intro x y z h1 h2
    rw [entLt_iff] at *
    unfold entLt nameLt at *
    omega
  · intro x y z h1 h2
    rw [Bool.eq_false_iff, ne_eq, entLt_iff] at *
    unfold entLt nameLt at *
    omega
set_option maxRecDepth 100000 in
theorem entFn_lays (blk off size : Nat) (w : World) : CmpLays Try.prog 119 #[] (Enc.enc : GEntry → List Value) 35 entCmp blk off size w := by
  intro m os dk _ x y
  generalize sortWorldK (Enc.enc : GEntry → List Value) 35 w blk off m dk os = W
  rw [Array.append_empty]
  rw [← GEntry.val_eq, ← GEntry.val_eq]
  exact entFn_any x y W
theorem sortEnt_any (blk off cap : Nat) (xs : List GEntry) (w : World) (hx : Sl GEntry w w.heap.size (some ⟨blk, off, none⟩) xs.length xs) (hb : blk < w.heap.size) (hf : blkFree w blk = true) (hn : xs.length ≤ 1000000) :
    Calls Try.prog 118 #[.slice (some ⟨blk, off, none⟩) xs.length cap, .func (.func 119) #[] #[]] w fun e w' => e = .returned (.tuple #[]) ∧
      ∃ d' : Array GEntry, PermIn 0 xs.toArray.size xs.toArray d' ∧ SortedIn (ltOf entCmp) 0 xs.toArray.size d' ∧ Sl GEntry w' w.heap.size (some ⟨blk, off, none⟩) xs.length d'.toList ∧ GX blk w w' := by
  have hH := hx.holdsK hf
  have := AnyQ.slices_SortFunc Try.sortEnt 35 Try.isAgg30 Try.sizeOf30 (Enc.enc : GEntry → List Value) GEntry.enc_len GEntry.enc_one entCmp entCmp_swo 119 #[] blk off cap xs.toArray w
    (enters_of Try.func119 (by kernel_rfl) rfl) (entFn_lays _ _ _ _) hH hb (by simp; omega)
  have e1 : xs.toArray.size = xs.length := by simp
  rw [e1] at this ⊢
  refine this.mono ?_
  rintro e w' ⟨rfl, d', n, os, hp, hs, rfl⟩
  have hz : d'.size = xs.toArray.size := hp.1
  obtain ⟨h1, h2⟩ := sorted_is (m := n) (os := os) hH hb hz
  rw [hz, e1] at h1
  exact ⟨rfl, d', hp, hs, h1, h2⟩
theorem permIn_listE {α : Type} [Inhabited α] {xs : List α} {d : Array α} (h : PermIn 0 xs.toArray.size xs.toArray d) : d.toList.Perm xs := by
  obtain ⟨h1, _, h3⟩ := h
  rw [← h1] at h3
  have h4 : (List.take xs.length d.toList).Perm xs := by simpa [h1] using h3
  rwa [List.take_of_length_le (by have := h1; simp at this; simp; omega)] at h4
theorem sortedIn_listE {α : Type} [Inhabited α] {lt : α → α → Bool} {d : Array α} (h : SortedIn lt 0 d.size d) : d.toList.Pairwise fun x y => lt y x = false := by
  rw [List.pairwise_iff_getElem]
  intro i j hi hj hij
  have h2 := h i j (Nat.zero_le _) hij (by simpa using hj)
  rw [getElem!_pos d i (by simpa using hi), getElem!_pos d j (by simpa using hj)] at h2
  simpa using h2
/-- SortFunc at a list of the call's own. -/
theorem sortEnt_own (base c : Nat) (A : Option Addr) (xs : List GEntry) (w : World) (h : OwnA w base 30 A c xs) (hn : xs.length ≤ 1000000) :
    Calls Try.prog 118 #[.slice A xs.length c, .func (.func 119) #[] #[]] w fun e w' => e = .returned (.tuple #[]) ∧
      ∃ (ys : List GEntry) (gb : Nat), ys.Perm xs ∧ (ys.Pairwise fun x y => ltOf entCmp y x = false) ∧ Sl GEntry w' w'.heap.size A xs.length ys ∧ base ≤ gb ∧ GX gb w w' := by
  by_cases h0 : xs.length = 0
  · obtain rfl : xs = [] := List.eq_nil_of_length_eq_zero h0
    refine (AnyF.slices_SortFunc_none Try.sortEnt A c _ w).mono ?_
    rintro e w' ⟨rfl, rfl⟩
    exact ⟨rfl, [], base, .refl _, List.Pairwise.nil, ⟨rfl, fun h => absurd h (by simp)⟩, Nat.le_refl _, GX.rf _⟩
  · obtain ⟨g, rfl, hg1, hg2, hg3⟩ := OwnA.place h (by omega)
    refine (sortEnt_any g 0 c xs w h.sl hg2 hg3 hn).mono ?_
    rintro e w' ⟨rfl, d, hp, hs, hsl, hg⟩
    have hz : d.size = xs.toArray.size := hp.1
    refine ⟨rfl, d.toList, g, permIn_listE hp, sortedIn_listE (by rw [hz]; exact hs), hsl.more hg.size, hg1, hg⟩
end Go.Proofs.Yteockodnfempfaa
/- What a batch reads as; the entries of a batch, walked. Conditions: those named in each theorem. -/
namespace Go.Proofs.Yteockodnfempfaa
open Go Go.RowKit Go.Gv Go.Sort Go.Proofs

/-- What a batch reads as: its promises' certificates as the entries that they stand for. -/
structure MBatch where
  epoch : Int
  time : Int
  proms : List (List GEntry)
  opens : List (Int × List U8)
  tombs : List Int
def CertIs (Q : Nat → Prop) (w : World) (c : GCert) (e : GEntry) : Prop := c.commit.name = e.name ∧ c.commit.hash = e.hash ∧ ∃ s : GStamp, s.time = e.time ∧ SlQ GStamp Q w c.stamps [s]
def PromIs (Q : Nat → Prop) (w : World) (p : GPromise) (l : List GEntry) : Prop := ∃ cs, SlQ GCert Q w p.certs cs ∧ R2 (CertIs Q w) cs l
def OpenIs (Q : Nat → Prop) (w : World) (o : GOpening) (m : Int × List U8) : Prop := o.index = m.1 ∧ SlQ U8 Q w o.payload m.2 ∧ m.2.length ≤ 1000000
def TombIs (t : GTomb) (i : Int) : Prop := t.index = i
structure BatchIs (Q : Nat → Prop) (w : World) (x : GBatch) (M : MBatch) : Prop where
  epoch : x.epoch = M.epoch
  time : x.time = M.time
  proms : ∃ ps, SlQ GPromise Q w x.promises ps ∧ R2 (PromIs Q w) ps M.proms
  opens : ∃ os, SlQ GOpening Q w x.openings os ∧ R2 (OpenIs Q w) os M.opens
  tombs : ∃ ts, SlQ GTomb Q w x.tombs ts ∧ R2 TombIs ts M.tombs
section
variable {Q T : Nat → Prop} {w w' : World}
theorem CertIs.chg {c : GCert} {e : GEntry} (hc : Chg T w w') (hQ : ∀ k, Q k → ¬ T k) (h : CertIs Q w c e) : CertIs Q w' c e := by
  obtain ⟨h1, h2, s, h3, h4⟩ := h
  exact ⟨h1, h2, s, h3, h4.chg hc hQ⟩
theorem PromIs.chg {p : GPromise} {l : List GEntry} (hc : Chg T w w') (hQ : ∀ k, Q k → ¬ T k) (h : PromIs Q w p l) : PromIs Q w' p l := by
  obtain ⟨cs, h1, h2⟩ := h
  exact ⟨cs, h1.chg hc hQ, h2.mono fun _ _ h => h.chg hc hQ⟩
theorem OpenIs.chg {o : GOpening} {m : Int × List U8} (hc : Chg T w w') (hQ : ∀ k, Q k → ¬ T k) (h : OpenIs Q w o m) : OpenIs Q w' o m := ⟨h.1, h.2.1.chg hc hQ, h.2.2⟩
theorem BatchIs.chg {x : GBatch} {M : MBatch} (hc : Chg T w w') (hQ : ∀ k, Q k → ¬ T k) (h : BatchIs Q w x M) : BatchIs Q w' x M := by
  obtain ⟨h1, h2, ⟨ps, h3, h4⟩, ⟨os, h5, h6⟩, ts, h7, h8⟩ := h
  exact ⟨h1, h2, ⟨ps, h3.chg hc hQ, h4.mono fun _ _ h => h.chg hc hQ⟩, ⟨os, h5.chg hc hQ, h6.mono fun _ _ h => h.chg hc hQ⟩, ts, h7.chg hc hQ, h8⟩
theorem BatchIs.bel {x : GBatch} {M : MBatch} (h : BatchIs Q w x M) (hb : Bel w w') : BatchIs Q w' x M := h.chg (T := fun _ => False) (Chg.of_bel hb _) (fun _ _ h => h)
theorem CertIs.bel {c : GCert} {e : GEntry} (h : CertIs Q w c e) (hb : Bel w w') : CertIs Q w' c e := h.chg (T := fun _ => False) (Chg.of_bel hb _) (fun _ _ h => h)
theorem PromIs.bel {p : GPromise} {l : List GEntry} (h : PromIs Q w p l) (hb : Bel w w') : PromIs Q w' p l := h.chg (T := fun _ => False) (Chg.of_bel hb _) (fun _ _ h => h)
theorem OpenIs.bel {o : GOpening} {m : Int × List U8} (h : OpenIs Q w o m) (hb : Bel w w') : OpenIs Q w' o m := h.chg (T := fun _ => False) (Chg.of_bel hb _) (fun _ _ h => h)
end
/-- The best entries so far, one entry more. -/
def stepE (last T : Int) (S : List GName) (bm : List (GName × GEntry)) (e : GEntry) : List (GName × GEntry) :=
  if e.time ≤ last ∨ T < e.time ∨ e.name ∈ S then bm else
    match mget bm e.name with
    | none => mset bm e.name e
    | some was => if aheadB e was = true then mset bm e.name e else bm
def bestOf (last T : Int) (S : List GName) (l : List GEntry) : List (GName × GEntry) := l.foldl (stepE last T S) []
theorem bestOf_snoc (last T : Int) (S : List GName) (l : List GEntry) (e : GEntry) : bestOf last T S (l ++ [e]) = stepE last T S (bestOf last T S l) e := by unfold bestOf; rw [List.foldl_append]; rfl
theorem stepE_len (last T : Int) (S : List GName) (bm : List (GName × GEntry)) (e : GEntry) : (stepE last T S bm e).length ≤ bm.length + 1 := by
  unfold stepE
  split
  · omega
  · split
    · exact mset_length_le _ _ _
    · split
      · exact mset_length_le _ _ _
      · omega
theorem bestOf_len (last T : Int) (S : List GName) : ∀ l : List GEntry, (bestOf last T S l).length ≤ l.length := by
  have key : ∀ (l : List GEntry) (bm : List (GName × GEntry)), (l.foldl (stepE last T S) bm).length ≤ bm.length + l.length := by
    intro l
    induction l with
    | nil => intro bm; simp
    | cons e l ih =>
      intro bm
      rw [List.foldl_cons, List.length_cons]
      have h1 := ih (stepE last T S bm e)
      have h2 := stepE_len last T S bm e
      omega
  intro l
  have := key l []
  simpa [bestOf] using this
def EntriesOf (last : Int) (S : List GName) (M : MBatch) (es : List GEntry) : Prop := es.Perm ((bestOf last M.time S M.proms.flatten).map (·.2)) ∧ es.Pairwise fun x y => ltOf entCmp y x = false
def EntriesR (last : Int) (S : List GName) (M : MBatch) (w : World) (e : Ending) (w' : World) : Prop := ∃ (es : List GEntry) (h : Hdr), e = .returned h.val ∧ EntriesOf last S M es ∧ SlQ GEntry (fun k => w.heap.size ≤ k) w' h es ∧ Bel w w'
theorem GX.bel {w0 w w' : World} {r : Nat} (hb : Bel w0 w) (h : GX r w w') (hr : w0.heap.size ≤ r) : Bel w0 w' := hb.grown h (fun k hk => by injection hk with hk; omega)
theorem flatten_take_succ {α : Type} (l : List (List α)) {i : Nat} {a : List α} (h : l[i]? = some a) : (l.take (i + 1)).flatten = (l.take i).flatten ++ a := by
  rw [List.take_add_one, h, Option.toList_some, List.flatten_append, List.flatten_singleton]
set_option maxRecDepth 100000 in
set_option maxHeartbeats 4000000 in
theorem entries_any (last : Int) (rl : Nat) (nm : List (GName × Bool)) (S : List GName) (x : GBatch) (M : MBatch) (Q : Nat → Prop) (w : World) (hx : BatchIs Q w x M) (hm : mapAt GName Bool w rl = some nm) (hS : SetIs nm S) (hlen : M.proms.flatten.length ≤ 1000000) :
    Calls Try.prog 82 #[.int .u64 last, .map (some rl), x.val] w (EntriesR last S M w) := by
  have hmm := @run_makeMap Try.prog
  have hrl := mapAt_lt hm
  obtain ⟨ps, hps, hpr⟩ := hx.proms
  have HPS := Lib.hid hps; have HPR := Lib.hid hpr; have HM := Lib.hid hm; have HS := Lib.hid hS
  have hgx := get?_alloc (.map #[] 0) (get?_new (w := w) 74 x)
  have f1 : ((w.alloc (.cells x.enc.toArray 74)).alloc (.map #[] 0)).cell? ⟨w.heap.size, 1, none⟩ = some (.int .u64 M.time) := by
    have := GBatch.at_time hgx
    rw [hx.time] at this
    exact cell_off (by omega) this
  have f2 : ((w.alloc (.cells x.enc.toArray 74)).alloc (.map #[] 0)).cell? ⟨w.heap.size, 2, none⟩ = some (.slice x.promises.a x.promises.len x.promises.cap) := cell_off (by omega) (GBatch.at_promises hgx)
  have hmb : mapAt GName GEntry ((w.alloc (.cells x.enc.toArray 74)).alloc (.map #[] 0)) (w.heap.size + 1) = some [] := by
    have := mapAt_new GName GEntry (w.alloc (.cells x.enc.toArray 74))
    rwa [World.size_alloc] at this
  have hbel : Bel w ((w.alloc (.cells x.enc.toArray 74)).alloc (.map #[] 0)) := ((Bel.refl w).alloc _).alloc _
  have F1 := Lib.hid f1; have F2 := Lib.hid f2; have MB := Lib.hid hmb; have BL := Lib.hid hbel
  have hsz2 : ((w.alloc (.cells x.enc.toArray 74)).alloc (.map #[] 0)).heap.size = w.heap.size + 2 := by simp
  obtain ⟨n, hn⟩ : ∃ n, x.promises.len = n := ⟨_, rfl⟩
  have hnl : ps.length = n := by rw [← hn]; exact hps.1.1
  have hnb : n ≤ 9223372036854775807 := by have := hps.2.1; have := hps.2.2.1; unfold maxLen at *; omega
  clear hps hpr hm hS hgx hmb hbel hx f1
  go_enter Try.func82, Try.ntmps82
  go_wp2_with fail
  clear f2
  generalize (w.alloc (.cells x.enc.toArray 74)).alloc (.map #[] 0) = w2 at F1 F2 MB BL hsz2 ⊢
  go_loopw [22] (fun i wr => ∃ k : Nat, k ≤ n ∧ i = .int .i64 k ∧ mapAt GName GEntry wr (w.heap.size + 1) = some (bestOf last M.time S (M.proms.take k).flatten) ∧ GX (w.heap.size + 1) w2 wr) (fun i _ => n - (intOf i).toNat)
  case atStart => exact ⟨0, by omega, rfl, MB.out, GX.rf _⟩
  case round =>
    obtain ⟨k, hk, rfl, hmk, hgk⟩ := hrel
    have HMK := Lib.hid hmk; have HGK := Lib.hid hgk; clear hmk hgk
    have hzk := HGK.out.size
    have HBK := Lib.hid (GX.bel BL.out HGK.out (by omega))
    by_cases hlt : k < n
    · have hpsk := (HPS.out.bel HBK.out).1
      rw [hn] at hpsk
      obtain ⟨ad, p, hA, _, hpk, hgp⟩ := hpsk.at_ (k := k) hlt
      obtain ⟨l, hlk, hpl⟩ := HPR.out.at_ hpk
      obtain ⟨cs, hcs, hcr⟩ := hpl
      have HCS := Lib.hid hcs; have HCR := Lib.hid hcr; have HLK := Lib.hid hlk
      change get? GPromise wr (ad.add (k * 6)) = some p at hgp
      rw [hA]
      have f3 : (wr.alloc (.cells p.enc.toArray 92)).cell? ⟨wr.heap.size, 3, none⟩ = some (.slice p.certs.a p.certs.len p.certs.cap) := cell_off (by omega) (GPromise.at_certs (get?_new (w := wr) 92 p))
      have hBp := Lib.hid (HBK.out.alloc (.cells p.enc.toArray 92))
      have hGp := Lib.hid (GX.tr _ _ _ HGK.out (GX.of_bel ((Bel.refl wr).alloc (.cells p.enc.toArray 92)) (w.heap.size + 1)))
      have hMp := Lib.hid (mapAt_alloc (.cells p.enc.toArray 92) HMK.out)
      obtain ⟨m, hmn⟩ : ∃ n, p.certs.len = n := ⟨_, rfl⟩
      have hml : cs.length = m := by rw [← hmn]; exact hcs.1.1
      have hmb2 : m ≤ 9223372036854775807 := by have := hcs.2.1; have := hcs.2.2.1; unfold maxLen at *; omega
      clear hpsk hpk hcs hcr hlk hA
      have hlt2 : (k : Int) < (n : Int) := by omega
      go_wp2_with fail
      clear f3
      generalize hw3 : wr.alloc (.cells p.enc.toArray 92) = w3 at hBp hGp hMp ⊢
      go_loopw [29] (fun i wi => ∃ j : Nat, j ≤ m ∧ i = .int .i64 j ∧ mapAt GName GEntry wi (w.heap.size + 1) = some (bestOf last M.time S ((M.proms.take k).flatten ++ l.take j)) ∧ GX (w.heap.size + 1) w3 wi) (fun i _ => m - (intOf i).toNat)
      case atStart => exact ⟨0, by omega, rfl, by simpa using hMp.out, GX.rf _⟩
      case round =>
        obtain ⟨j, hj, rfl, hmj, hgj⟩ := hrel
        have HMJ := Lib.hid hmj; have HGJ := Lib.hid (GX.tr _ _ _ hGp.out hgj); have HG3 := Lib.hid hgj; clear hmj hgj
        have hzj := HGJ.out.size
        have HBJ := Lib.hid (GX.bel BL.out HGJ.out (by omega))
        by_cases hltj : j < m
        · have hcsj := (HCS.out.bel HBJ.out).1
          rw [hmn] at hcsj
          obtain ⟨bd, c, hB, _, hcj, hgc⟩ := hcsj.at_ (k := j) hltj
          obtain ⟨e, hej, hce⟩ := HCR.out.at_ hcj
          obtain ⟨hc1, hc2, s, hs1, hs2⟩ := hce
          change get? GCert wr (bd.add (j * 38)) = some c at hgc
          have hltj2 : (j : Int) < (m : Int) := by omega
          rw [hB]
          have hstep := bestOf_snoc last M.time S ((M.proms.take k).flatten ++ l.take j) e
          have etk : (M.proms.take k).flatten ++ l.take j ++ [e] = (M.proms.take k).flatten ++ l.take (j + 1) := by rw [List.append_assoc, List.take_add_one, hej]; rfl
          rw [etk] at hstep
          have HST := Lib.hid hstep
          have hee : (⟨c.commit.name, c.commit.hash, s.time⟩ : GEntry) = e := by rw [hc1, hc2, hs1]
          have HEE := Lib.hid hee
          have HSS := Lib.hid ((hs2.bel HBJ.out).1)
          have hgy := get?_new (w := wr) 89 c
          have hgy2 := GCert.at_commit hgy
          rw [Addr.add_zero'] at hgy2
          have k1 := GCommit.at_name hgy2
          rw [Addr.add_zero'] at k1
          have k2 := GCommit.at_hash hgy2
          rw [addN, Nat.zero_add] at k2
          have K1 := Lib.hid k1; have K2 := Lib.hid k2; have K3 := Lib.hid hgy
          clear hcsj hcj hej hc1 hc2 hs1 hs2 hB hstep etk hee hgy hgy2 k1 k2
          have hB8 := Lib.hid ((Bel.refl wr).alloc (.cells c.enc.toArray 89))
          go_wp2_with fail
          generalize hwy : wr.alloc (.cells c.enc.toArray 89) = wy at K1 K2 K3 hB8 ⊢
          refine wp_region_G GB [10] GB.rf (by kernel_rfl) ?_
          refine wpG_looks 2 11 [0,1,2,3,4,5,6,7,8] rfl GB.rf GB.tr (by kernel_rfl) (fun _ _ _ _ hd h => And.intro (hd ▸ And.left h) (And.right h)) rfl (by kernel_rfl) ?_
          intro ι W hne CW
          have g1 := fun z => (CW.out z).get K1.out
          have g2 := fun z => (CW.out z).get K2.out
          have g3 := fun z => (CW.out z).get K3.out
          have HSW := Lib.hid (fun z => HSS.out.stepB (hB8.out.trans (CW.out z).undrew))
          repeat (refine wpLooksG_step (fun K hK => ?_); go_simp; refine hK _ ?_; clear hK K)
          refine wpLooksG_step (fun K hK => ?_); go_simp
          refine ⟨_, fun z => time1_any c s (W z) (HSW.out z), hK _ ?_⟩
          clear hK K
          refine wpLooksG_step (fun K hK => ?_); go_simp; refine hK _ ?_; clear hK K
          refine wpLooksG_nil ?_
          clear g1 g2 g3 HSW CW hne W ι
          refine wpG_new 9 10 _ _ rfl rfl (by kernel_rfl) (by kernel_rfl) rfl rfl (by kernel_rfl) _ _ rfl rfl default (⟨c.commit.name, c.commit.hash, s.time⟩ : GEntry) al_GEntry sz30 (fun _ => rfl) (fun _ => GEntry.val_eq _) GB.al GB.bel ?_
          intro ge wa wb hwa hge hab hgb hgel
          refine wpG_end (by kernel_rfl) (fun wn hwn => ?_) _
          have hbn : Bel wr wn := Bel.trans (Bel.trans (Bel.trans hB8.out hwa.undrew) hab) hwn
          have hen : get? GEntry wn ⟨ge, 0, none⟩ = some e := by rw [← HEE.out]; exact GB.get hwn hgb
          have k5 : get? GName wn ⟨ge, 0, none⟩ = some e.name := by
            have := GEntry.at_name hen
            rwa [Addr.add_zero'] at this
          have k6 : wn.cell? ⟨ge, 34, none⟩ = some (.int .u64 e.time) := cell_off (by omega) (GEntry.at_time hen)
          have k7 : wn.cell? ⟨w.heap.size, 1, none⟩ = some (.int .u64 M.time) := GB.cell hbn (GX.cell HGJ.out F1.out (by show w.heap.size ≠ w.heap.size + 1; omega))
          have k8 : mapAt GName Bool wn rl = some nm := (mapAt_below (HBJ.out.trans hbn) hrl).trans HM.out
          have k9 : mapAt GName GEntry wn (w.heap.size + 1) = some (bestOf last M.time S ((M.proms.take k).flatten ++ l.take j)) := (mapAt_below hbn (mapAt_lt HMJ.out)).trans HMJ.out
          have hrb : w.heap.size + 1 < wn.heap.size := mapAt_lt k9
          have hgl2 : ge < wn.heap.size := Nat.lt_of_lt_of_le hgel (Below.size hwn)
          have HG4 := Lib.hid (GX.tr _ _ _ HG3.out (GX.of_bel hbn (w.heap.size + 1)))
          have K8 := Lib.hid k8; have HEN := Lib.hid hen
          obtain ⟨bm, hbm⟩ : ∃ bm, bestOf last M.time S ((M.proms.take k).flatten ++ l.take j) = bm := ⟨_, rfl⟩
          have hst := HST.out
          rw [hbm] at k9 hst
          have K9 := Lib.hid k9; have HT := Lib.hid hst
          clear hwa hwn hab hbn hgb hge hgel K1 K2 K3 hB8 hwy HST HMJ hbm hst
          have hnl := HS.out e.name
          by_cases hA : e.time ≤ last
          · have HU := Lib.hid (show stepE last M.time S bm e = bm by unfold stepE; rw [if_pos (.inl hA)])
            clear hnl
            go_wp2_with fail
            exact ⟨⟨j + 1, by omega, by go_num, by rw [HT.out, HU.out]; exact K9.out, HG4.out⟩, by simp [intOf]; omega⟩
          · have hA1 : last < e.time := by omega
            have hA2 : decide (e.time ≤ last) = false := by simpa using hA1
            by_cases hB : M.time < e.time
            · have HU := Lib.hid (show stepE last M.time S bm e = bm by unfold stepE; rw [if_pos (.inr (.inl hB))])
              clear hA hnl
              go_wp2_with fail
              exact ⟨⟨j + 1, by omega, by go_num, by rw [HT.out, HU.out]; exact K9.out, HG4.out⟩, by simp [intOf]; omega⟩
            · have hB1 : e.time ≤ M.time := by omega
              have hB2 : decide (M.time < e.time) = false := by simpa using hB1
              by_cases hC : e.name ∈ S
              · have HU := Lib.hid (show stepE last M.time S bm e = bm by unfold stepE; rw [if_pos (.inr (.inr hC))])
                rw [if_pos hC] at hnl
                clear hA hB hC
                go_wp2_with fail
                exact ⟨⟨j + 1, by omega, by go_num, by rw [HT.out, HU.out]; exact K9.out, HG4.out⟩, by simp [intOf]; omega⟩
              · rw [if_neg hC] at hnl
                have hno : ¬ (e.time ≤ last ∨ M.time < e.time ∨ e.name ∈ S) := by rintro (h | h | h); exact hA h; exact hB h; exact hC h
                clear hA hB hC
                cases hw : mget bm e.name with
                | none =>
                  have HU := Lib.hid (show stepE last M.time S bm e = mset bm e.name e by unfold stepE; rw [if_neg hno, hw])
                  clear hno
                  have hma : mapAt GName GEntry (wn.alloc (.cells (GEntry.enc default).toArray 30)) (w.heap.size + 1) = some bm := mapAt_alloc _ K9.out
                  have hml := mapAt_mput kl25 um202 hma e.name e
                  have hgr := mput_grown kl25 um202 hma e.name e
                  have HML := Lib.hid hml
                  have HGR := Lib.hid (GX.tr _ _ _ (GX.tr _ _ _ HG4.out (GX.of_bel ((Bel.refl wn).alloc (.cells (GEntry.enc default).toArray 30)) (w.heap.size + 1))) hgr)
                  clear hml hgr
                  have hen2 := HEN.out
                  go_wp2_with fail
                  exact ⟨⟨j + 1, by omega, by go_num, by rw [HT.out, HU.out]; exact HML.out, HGR.out⟩, by simp [intOf]; omega⟩
                | some was =>
                  have hen2 := HEN.out
                  cases hah : aheadB e was with
                  | false =>
                    have HU := Lib.hid (show stepE last M.time S bm e = bm by unfold stepE; rw [if_neg hno, hw]; simp only; rw [if_neg (by rw [hah]; decide)])
                    clear hno
                    go_wp2_with fail
                    refine (ahead_any e was _).mono ?_
                    rw [hah]
                    rintro _ w5 ⟨rfl, hb5⟩
                    have HB5 := Lib.hid (((Bel.refl wn).alloc (.cells was.enc.toArray 30)).trans hb5); clear hb5
                    go_wp2_with fail
                    exact ⟨⟨j + 1, by omega, by go_num, by rw [HT.out, HU.out]; exact (mapAt_below HB5.out hrb).trans K9.out, GX.tr _ _ _ HG4.out (GX.of_bel HB5.out _)⟩, by simp [intOf]; omega⟩
                  | true =>
                    have HU := Lib.hid (show stepE last M.time S bm e = mset bm e.name e by unfold stepE; rw [if_neg hno, hw]; simp only; rw [if_pos hah])
                    clear hno
                    go_wp2_with fail
                    refine (ahead_any e was _).mono ?_
                    rw [hah]
                    rintro _ w5 ⟨rfl, hb5⟩
                    have hb6 := ((Bel.refl wn).alloc (.cells was.enc.toArray 30)).trans hb5
                    have hma : mapAt GName GEntry w5 (w.heap.size + 1) = some bm := (mapAt_below hb6 hrb).trans K9.out
                    have hen5 := GB.get hb6 hen2
                    have k55 := GB.get hb6 k5
                    have hml := mapAt_mput kl25 um202 hma e.name e
                    have hgr := mput_grown kl25 um202 hma e.name e
                    have HML := Lib.hid hml
                    have HGR := Lib.hid (GX.tr _ _ _ (GX.tr _ _ _ HG4.out (GX.of_bel hb6 (w.heap.size + 1))) hgr)
                    clear hml hgr hb5 hb6
                    go_wp2_with fail
                    exact ⟨⟨j + 1, by omega, by go_num, by rw [HT.out, HU.out]; exact HML.out, HGR.out⟩, by simp [intOf]; omega⟩
        · obtain rfl : j = m := by omega
          have htl : l.take j = l := List.take_of_length_le (by rw [← HCR.out.len, hml]; exact Nat.le_refl _)
          have HTL := Lib.hid htl; clear htl
          go_wp2_with fail
          exact ⟨⟨k + 1, by omega, by go_num, by rw [flatten_take_succ _ HLK.out]; have := HMJ.out; rw [HTL.out] at this; exact this, HGJ.out⟩, by simp [intOf]; omega⟩
    · obtain rfl : k = n := by omega
      have htk : M.proms.take k = M.proms := List.take_of_length_le (by rw [← HPR.out.len, hnl]; exact Nat.le_refl _)
      obtain ⟨w4, h4⟩ : ∃ w4, w4 = wr := ⟨_, rfl⟩
      subst h4
      have hm4 := HMK.out
      rw [htk] at hm4
      obtain ⟨bm, hbm⟩ : ∃ bm, bestOf last M.time S M.proms.flatten = bm := ⟨_, rfl⟩
      have hbl : bm.length ≤ 1000000 := by
        rw [← hbm]; exact Nat.le_trans (bestOf_len _ _ _ _) hlen
      rw [hbm] at hm4
      have HBM := Lib.hid hbm
      obtain ⟨o, hrange, hR0⟩ := ranges_start (P := Try.prog) um202 hm4
      have HR0 := Lib.hid hR0
      have hrb4 := mapAt_lt hm4
      clear hR0 hm4 htk hbm HMK
      go_wp2_with fail
      clear hrange
      go_loopw [15] (fun v wr => ∃ V L, (V ++ L).Perm bm ∧ Ranges wr (w.heap.size + 1) w4.heap.size bm L ∧ OwnS wr (w4.heap.size + 1) 30 v (V.map (·.2)) ∧ Bel w4 wr ∧ w4.heap.size < wr.heap.size) (fun _ wr => wr.rangeLeft (w.heap.size + 1) w4.heap.size)
      case atStart => exact ⟨[], bm, by simp, HR0.out, OwnS.nil _ _ _, (Bel.refl w4).alloc _, by simp⟩
      case round =>
        obtain ⟨V, L, hperm, hR, hown, hb, hsz⟩ := hrel
        have HP := Lib.hid hperm; have HRG := Lib.hid hR; have HO := Lib.hid hown; have HBL := Lib.hid hb; clear hperm hR hown hb
        rcases HRG.out.next Try.prog with ⟨rfl, hnext⟩ | ⟨l1, q, l2, w1, rfl, hnext, hR1, hg1, hs1, hen⟩
        · have hV : V.Perm bm := by simpa using HP.out
          obtain ⟨ys, hys⟩ : ∃ ys, V.map (·.2) = ys := ⟨_, rfl⟩
          have ho := HO.out
          rw [hys] at ho
          have hyl : ys.length ≤ 1000000 := by rw [← hys, List.length_map, hV.length_eq]; exact hbl
          have hyp : ys.Perm (bm.map (·.2)) := by rw [← hys]; exact hV.map _
          obtain ⟨A, c, rfl, hoa, hc1, hc2⟩ := OwnS.ownA ho
          have hpl : 0 < ys.length → ∀ ad, A = some ad → w.heap.size ≤ ad.block := fun h0 ad e => by
            obtain ⟨g5, e5, h5, _, _⟩ := OwnA.place hoa h0
            rw [e5] at e
            injection e with e
            rw [← e]
            show w.heap.size ≤ g5
            omega
          have HS := Lib.hid (sortEnt_own _ c A ys wr hoa hyl)
          have HY := Lib.hid hyp; have HPL := Lib.hid hpl
          clear hV hys ho HO HP HRG hoa hyp hpl
          go_wp2_with fail
          refine HS.out.mono ?_
          rintro _ w5 ⟨rfl, ds, gb, hdp, hds, hsl, hgb, hgx⟩
          have hb5 : Bel w w5 := (GX.bel BL.out HGK.out (by omega)).trans (HBL.out.grown hgx (fun k hk => by injection hk with hk; omega))
          have HSL := Lib.hid hsl; have HB5 := Lib.hid hb5; have HDP := Lib.hid hdp; have HDS := Lib.hid hds
          clear hsl hb5 hgx hdp hds HS HBL
          go_wp2_with fail
          go_ret
          refine ⟨ds, ⟨A, ys.length, c⟩, rfl, ⟨?_, HDS.out⟩, ⟨HSL.out, hc1, hc2, HPL.out⟩, HB5.out⟩
          rw [HBM.out]
          exact HDP.out.trans HY.out
        · obtain ⟨kk, s⟩ := q
          replace hnext : ∀ ty : TypeId, (Instr.next (.pointer (some ⟨w4.heap.size, 0, none⟩)) false ty).run Try.prog wr = .ok (.tuple #[.bool true, kk.val, s.val]) w1 := hnext
          replace hen : (Instr.entry (.pointer (some ⟨w4.heap.size, 0, none⟩))).run Try.prog w1 = .ok (.tuple #[kk.val, s.val]) w1 := hen
          have hl1 : (V.map (·.2)).length ≤ 1000000 := by
            rw [List.length_map]
            have h1 := HP.out.length_eq
            rw [List.length_append] at h1
            omega
          have HR1 := Lib.hid hR1
          have HO1 := Lib.hid (HO.out.kept hg1 (by
            cases hv : Value.ownBlock u15 with
            | none => exact .inl rfl
            | some j => exact .inr (fun e => by injection e with e; have := (HO.out.lt j hv).1; omega)))
          have HB1 := Lib.hid (HBL.out.grown hg1 (fun j hj => by injection hj with hj; omega))
          have HP2 := Lib.hid (show ((V ++ [(kk, s)]) ++ (l1 ++ l2)).Perm bm from by
            refine List.Perm.trans ?_ HP.out
            rw [List.append_assoc]
            show (V ++ ((kk, s) :: (l1 ++ l2))).Perm _
            exact (List.perm_middle.symm).append_left V)
          have hmeas : (l1 ++ l2).length < wr.rangeLeft (w.heap.size + 1) w4.heap.size := by rw [HRG.out.leftN]; simp
          clear hR1 hg1
          have e : (V ++ [(kk, s)]).map (·.2) = V.map (·.2) ++ [s] := by rw [List.map_append]; rfl
          have HE := Lib.hid e; clear e
          obtain ⟨v4, w7, hrun4, ho4, hg4, _⟩ := gAppend_S (P := Try.prog) ei22 (t := 22) ((HO1.out.alloc (.cells s.enc.toArray 30)).alloc (.cells s.enc.toArray 30)) (c := 1) (m := 1) (A := some ⟨wr.heap.size + 1, 0, none⟩) (Sl.new_ (B := wr.heap.size + 2) (xs := [s]) (by simp; rfl) rfl (by simp [World.size_alloc, hs1]) (by omega)) (Nat.le_trans (Nat.add_le_add_right hl1 1) (by unfold maxLen; omega)) (Nat.le_trans (Nat.mul_le_mul_right _ (Nat.add_le_add_right hl1 1)) (by omega)) (by simp only [World.size_alloc]; omega) 22
          rw [← HE.out] at ho4
          have hbB := ((HB1.out.alloc (.cells s.enc.toArray 30)).alloc (.cells s.enc.toArray 30)).appS hg4 ((HO1.out.alloc (.cells s.enc.toArray 30)).alloc (.cells s.enc.toArray 30)) (by omega)
          have hrg := ((HR1.out.below ((Below.refl _ _).alloc (Nat.le_refl _) (.cells s.enc.toArray 30))).below ((Below.refl _ _).alloc (Nat.le_refl _) (.cells s.enc.toArray 30))).kept hg4 (fun e => by have := (HO.out.lt _ e.symm).1; omega) (fun e => by have := (HO.out.lt _ e.symm).1; omega)
          have hz4 := hg4.size
          simp only [World.size_alloc] at hz4
          have HO4 := Lib.hid ho4; have HB4 := Lib.hid hbB; have HR4 := Lib.hid hrg; clear ho4 hg4 hbB hrg hl1
          go_wp2_with fail
          exact ⟨⟨V ++ [(kk, s)], l1 ++ l2, HP2.out, HR4.out, HO4.out, HB4.out, by omega⟩, by rw [HR4.out.leftN]; exact hmeas⟩
end Go.Proofs.Yteockodnfempfaa
/- Entries of a batch: plain laws; a ledger one place longer. Conditions: those named in each theorem. -/
namespace Go.Proofs.Yteockodnfempfaa
open Go Go.RowKit Go.Gv Go.Sort Go.Proofs

/-- What the best entries are. -/
structure BestIs (last T : Int) (S : List GName) (l : List GEntry) (bm : List (GName × GEntry)) : Prop where
  nodup : (bm.map (·.1)).Nodup
  is : ∀ p ∈ bm, p.2.name = p.1 ∧ last < p.2.time ∧ p.2.time ≤ T ∧ p.1 ∉ S ∧ p.2 ∈ l
theorem mset_mem {K V : Type} [DecidableEq K] {m : List (K × V)} {k : K} {v : V} {p : K × V} (h : p ∈ mset m k v) : p ∈ m ∨ p = (k, v) := by
  unfold mset at h
  split at h
  · rw [List.mem_map] at h
    obtain ⟨q, hq, rfl⟩ := h
    split
    · right; rfl
    · left; exact hq
  · rw [List.mem_append, List.mem_singleton] at h
    exact h
theorem BestIs.step {last T : Int} {S : List GName} {l : List GEntry} {bm : List (GName × GEntry)} (h : BestIs last T S l bm) (e : GEntry) : BestIs last T S (l ++ [e]) (stepE last T S bm e) := by
  have hmore : ∀ p ∈ bm, p.2.name = p.1 ∧ last < p.2.time ∧ p.2.time ≤ T ∧ p.1 ∉ S ∧ p.2 ∈ l ++ [e] := fun p hp => by
    obtain ⟨h1, h2, h3, h4, h5⟩ := h.is p hp
    exact ⟨h1, h2, h3, h4, by simp [h5]⟩
  unfold stepE
  split
  · exact ⟨h.nodup, hmore⟩
  · rename_i hno
    have hset : BestIs last T S (l ++ [e]) (mset bm e.name e) := ⟨mset_nodup h.nodup _ _, fun p hp => by
      rcases mset_mem hp with hp | rfl
      · exact hmore p hp
      · exact ⟨rfl, by have := fun h => hno (.inl h); simp only; omega, by have := fun h => hno (.inr (.inl h)); simp only; omega, fun h => hno (.inr (.inr h)), by simp⟩⟩
    split
    · exact hset
    · split
      · exact hset
      · exact ⟨h.nodup, hmore⟩
theorem bestIs (last T : Int) (S : List GName) (l : List GEntry) : BestIs last T S l (bestOf last T S l) := by
  have key : ∀ (l l0 : List GEntry) (bm : List (GName × GEntry)), BestIs last T S l0 bm → BestIs last T S (l0 ++ l) (l.foldl (stepE last T S) bm) := by
    intro l
    induction l with
    | nil => intro l0 bm h; simpa using h
    | cons e l ih =>
      intro l0 bm h
      rw [List.foldl_cons]
      have := ih (l0 ++ [e]) _ (h.step e)
      rwa [List.append_assoc] at this
  exact key l [] [] ⟨by simp, by simp⟩
/-- What a batch's entries are. -/
structure EntriesAre (last T : Int) (S : List GName) (es : List GEntry) : Prop where
  nodup : (es.map (·.name)).Nodup
  is : ∀ e ∈ es, last < e.time ∧ e.time ≤ T ∧ e.name ∉ S
  rise : es.Pairwise entLt
theorem entLt_total (x y : GEntry) : entLt x y ∨ entLt y x ∨ x.name = y.name := by
  unfold entLt nameLt
  by_cases h1 : x.time < y.time
  · exact .inl (.inl h1)
  · by_cases h2 : y.time < x.time
    · exact .inr (.inl (.inl h2))
    · have h3 : x.time = y.time := by omega
      by_cases h4 : x.name.client < y.name.client
      · exact .inl (.inr ⟨h3, .inl h4⟩)
      · by_cases h5 : y.name.client < x.name.client
        · exact .inr (.inl (.inr ⟨h3.symm, .inl h5⟩))
        · have h6 : x.name.client = y.name.client := by omega
          by_cases h7 : x.name.seq < y.name.seq
          · exact .inl (.inr ⟨h3, .inr ⟨h6, h7⟩⟩)
          · by_cases h8 : y.name.seq < x.name.seq
            · exact .inr (.inl (.inr ⟨h3.symm, .inr ⟨h6.symm, h8⟩⟩))
            · right; right
              have h9 : x.name.seq = y.name.seq := by omega
              cases hx : x.name; cases hy : y.name
              rw [hx, hy] at h6 h9
              simp only at h6 h9
              rw [h6, h9]
theorem EntriesOf.are {last : Int} {S : List GName} {M : MBatch} {es : List GEntry} (h : EntriesOf last S M es) : EntriesAre last M.time S es ∧ es.length ≤ M.proms.flatten.length := by
  obtain ⟨hp, hs⟩ := h
  have hb := bestIs last M.time S M.proms.flatten
  have e1 : ∀ bm : List (GName × GEntry), (∀ p ∈ bm, p.2.name = p.1) → (bm.map (·.2)).map (·.name) = bm.map (·.1) := fun bm h => by
    rw [List.map_map]
    exact List.map_congr_left fun p hp => h p hp
  have hnd : (es.map (·.name)).Nodup := by
    have h1 := hp.map (·.name)
    rw [e1 _ (fun p hp => (hb.is p hp).1)] at h1
    exact h1.nodup_iff.2 hb.nodup
  refine ⟨⟨hnd, fun e he => ?_, ?_⟩, ?_⟩
  · have := hp.mem_iff.1 he
    rw [List.mem_map] at this
    obtain ⟨p, hp1, rfl⟩ := this
    obtain ⟨h1, h2, h3, h4, _⟩ := hb.is p hp1
    exact ⟨h2, h3, by rw [h1]; exact h4⟩
  · have h2 : es.Pairwise fun x y => x.name ≠ y.name := by
      have := hnd
      unfold List.Nodup at this
      rwa [List.pairwise_map] at this
    refine (hs.and h2).imp fun {a b} hab => ?_
    rcases entLt_total a b with h | h | h
    · exact h
    · have := (entLt_iff b a).2 h
      rw [hab.1] at this; cases this
    · exact absurd h hab.2
  · rw [hp.length_eq, List.length_map]
    exact bestOf_len _ _ _ _
theorem namesFrom_append : ∀ (l : List MPlace) (i : Nat) (m : MPlace), namesFrom i (l ++ [m]) = namesFrom i l ++ [(m.e.name, ((i + l.length : Nat) : Int))]
  | [], i, m => rfl
  | x :: l, i, m => by
    simp only [List.cons_append, namesFrom, List.length_cons]
    rw [namesFrom_append l (i + 1) m]
    congr 3
    congr 1
    omega
theorem names_push {nm : List (GName × Int)} {l : List MPlace} (h : nm.Perm (namesOf l)) {m : MPlace} (hn : m.e.name ∉ l.map (·.e.name)) : (mset nm m.e.name (l.length : Int)).Perm (namesOf (l ++ [m])) := by
  have hk : m.e.name ∉ nm.map (·.1) := fun hm => hn (by
    rw [← namesFrom_keys l 0]
    exact (h.map _).mem_iff.1 hm)
  unfold namesOf
  rw [namesFrom_append]
  unfold mset
  rw [if_neg hk, Nat.zero_add]
  exact h.append_right _
theorem header_set (M : MLedger) (hd hd' : Hdr) (r : Nat) : Enc.enc (⟨M.epoch, M.last, hd', some r, M.done⟩ : GLedgerLedger) = (Enc.enc (⟨M.epoch, M.last, hd, some r, M.done⟩ : GLedgerLedger)).set 2 hd'.val := rfl
/-- What a ledger's parts read as, its names apart. -/
structure PartsL (w : World) (g r : Nat) (S U : Nat → Prop) (hd : Hdr) (ps : List GLedgerPlace) (M : MLedger) (nm : List (GName × Int)) : Prop where
  foot : S = footL g r hd
  sub : ∀ k, S k → U k
  lt : ∀ k, U k → k < w.heap.size
  get : get? GLedgerLedger w ⟨g, 0, none⟩ = some ⟨M.epoch, M.last, hd, some r, M.done⟩
  free : blkFree w g = true
  own : OwnS w 0 169 hd.val ps
  ne : hd.val.ownBlock ≠ some g
  rel : R2 (PlaceIs (fun k => U k ∧ ¬ S k) w) ps M.l
  map : mapAt GName Int w r = some nm
section
variable {w w' : World} {g r : Nat} {S U T : Nat → Prop} {hd : Hdr} {ps : List GLedgerPlace} {M : MLedger} {nm : List (GName × Int)}
theorem LedgerIs.parts (h : LedgerIs w g S U M) : ∃ hd r ps nm, PartsL w g r S U hd ps M nm ∧ nm.Perm (namesOf M.l) := by
  obtain ⟨hd, r, ps, nm, rfl, hSU, hg, hf, ho, hne, hr, hm, hp⟩ := h
  exact ⟨hd, r, ps, nm, ⟨rfl, hSU.1, hSU.2, hg, hf, ho, hne, hr, hm⟩, hp⟩
theorem PartsL.is (h : PartsL w g r S U hd ps M nm) (hp : nm.Perm (namesOf M.l)) : LedgerIs w g S U M := ⟨hd, r, ps, nm, h.foot, ⟨h.sub, h.lt⟩, h.get, h.free, h.own, h.ne, h.rel, h.map, hp⟩
theorem PartsL.chg (h : PartsL w g r S U hd ps M nm) (hc : Chg T w w') (hT : ∀ k, U k → ¬ T k) : PartsL w' g r S U hd ps M nm := by
  obtain ⟨rfl, hsub, hlt, hg, hf, ho, hne, hr, hm⟩ := h
  have hS : ∀ k, footL g r hd k → ¬ T k := fun k hk => hT k (hsub k hk)
  refine ⟨rfl, hsub, fun k hk => Nat.lt_of_lt_of_le (hlt k hk) hc.size, hc.get hg (hS g (.inl rfl)), hc.free hf (get?_lt hg) (hS g (.inl rfl)), ho.chg hc (fun k hk => hS k (.inr (.inr hk))), hne, hr.mono (fun a b hab => ⟨hab.1, hab.2.1, ?_⟩), hc.map hm (hS r (.inr (.inl rfl)))⟩
  obtain ⟨h1, h2, h3, h4⟩ := hab.2.2
  exact ⟨Sl.chg hc h1 (fun hn ad e => hT _ (h4 hn ad e).1), h2, h3, h4⟩
theorem PartsL.bel (h : PartsL w g r S U hd ps M nm) (hb : Bel w w') : PartsL w' g r S U hd ps M nm := h.chg (T := fun _ => False) (Chg.of_bel hb _) (fun _ _ h => h)
theorem map_not_cells {K V : Type} [DecidableEq K] [KEnc K] [VEnc V] {m : List (K × V)} (hm : mapAt K V w r = some m) {cs : Array Value} {t : TypeId} {fr : Nat × Nat} {k : Nat} (h : w.heap[k]? = some (.cells cs t fr)) : k ≠ r := by
  rintro rfl
  obtain ⟨es, c, hb, _⟩ := mapAt_iff.1 hm
  rw [hb] at h; cases h
theorem own_not_map {α : Type} [Enc α] {K V : Type} [DecidableEq K] [KEnc K] [VEnc V] {m : List (K × V)} (hm : mapAt K V w r = some m) {base : Nat} {e : TypeId} {v : Value} {xs : List α} (h : OwnS w base e v xs) : v.ownBlock ≠ some r := by
  intro he
  rcases h.2 with ⟨rfl, _⟩ | ⟨g, cap, cur, rfl, _, hh, _⟩
  · cases he
  · injection he with he
    subst he
    exact map_not_cells hm hh rfl
theorem get_not_map {α : Type} [Enc α] {K V : Type} [DecidableEq K] [KEnc K] [VEnc V] {m : List (K × V)} (hm : mapAt K V w r = some m) {a : Addr} {x : α} (h : get? α w a = some x) : a.block ≠ r := by
  intro e
  obtain ⟨es, c, hb, _⟩ := mapAt_iff.1 hm
  have h0 : (Enc.enc x)[0]? = some ((Enc.enc x)[0]'(by rw [Enc.len]; exact Enc.pos)) := List.getElem?_eq_getElem _
  have := get?_iff.1 h 0 _ h0
  simp [World.cell?, add_block, e, hb] at this
/-- A name more in the map of names. -/
theorem PartsL.put (h : PartsL w g r S U hd ps M nm) (k : GName) (v : Int) : PartsL (mput Try.prog 161 w r k v) g r S U hd ps M (mset nm k v) ∧ Chg S w (mput Try.prog 161 w r k v) := by
  have hml := mapAt_mput kl25 um161 h.map k v
  have hgr := mput_grown kl25 um161 h.map k v
  have hc : Chg (fun i => i = r) w (mput Try.prog 161 w r k v) := Chg.of_grown hgr (fun i hi => by injection hi with hi; exact hi.symm)
  have hgr2 : g ≠ r := get_not_map h.map h.get
  have hor := own_not_map h.map h.own
  have hSr : S r := by rw [h.foot]; exact .inr (.inl rfl)
  refine ⟨⟨h.foot, h.sub, fun i hi => Nat.lt_of_lt_of_le (h.lt i hi) hc.size, hc.get h.get hgr2, hc.free h.free (get?_lt h.get) hgr2, h.own.chg hc (fun i hi e => hor (by rw [hi, e])), h.ne, h.rel.mono (fun a b hab => ⟨hab.1, hab.2.1, hab.2.2.chg hc (fun i hi e => hi.2 (e ▸ hSr))⟩), hml⟩, hc.sub (fun i e => e ▸ hSr)⟩
/-- The parts of a ledger behind an append to its places, its header not yet written. -/
theorem PartsL.app (h : PartsL w g r S U hd ps M nm) (hg : w.grownBy w' hd.val.ownBlock) : get? GLedgerLedger w' ⟨g, 0, none⟩ = some ⟨M.epoch, M.last, hd, some r, M.done⟩ ∧ blkFree w' g = true ∧ R2 (PlaceIs (fun k => U k ∧ ¬ S k) w') ps M.l ∧ mapAt GName Int w' r = some nm ∧ Chg S w w' := by
  have hc : Chg (fun i => hd.val.ownBlock = some i) w w' := Chg.of_grown hg (fun i hi => hi)
  have hSo : ∀ i, hd.val.ownBlock = some i → S i := fun i hi => by rw [h.foot]; exact .inr (.inr hi)
  exact ⟨hc.get h.get h.ne, hc.free h.free (get?_lt h.get) h.ne, h.rel.mono (fun a b hab => ⟨hab.1, hab.2.1, hab.2.2.chg hc (fun i hi e => hi.2 (hSo i e))⟩), hc.map h.map (own_not_map h.map h.own), hc.sub hSo⟩
/-- A ledger one place longer. -/
theorem push_is {hd' : Hdr} {p : GLedgerPlace} {m : MPlace} (hfoot : S = footL g r hd) (hsub : ∀ k, S k → U k) (hlt : ∀ k, U k → k < w.heap.size) (hg : get? GLedgerLedger w ⟨g, 0, none⟩ = some ⟨M.epoch, M.last, hd, some r, M.done⟩) (hf : blkFree w g = true) (hr : R2 (PlaceIs (fun k => U k ∧ ¬ S k) w) ps M.l) (hm : mapAt GName Int w r = some nm)
    (ho : OwnS w 0 169 hd'.val (ps ++ [p])) (hne : hd'.val.ownBlock ≠ some g) (hfresh : ∀ k, hd'.val.ownBlock = some k → S k ∨ ¬ U k) (hp : p.e = m.e ∧ p.status = m.status ∧ p.payload = default ∧ m.pay = []) (hnm : nm.Perm (namesOf (M.l ++ [m]))) :
    ∃ S' U' : Nat → Prop, LedgerIs (w.setCell ⟨g, 2, none⟩ hd'.val) g S' U' { M with l := M.l ++ [m] } ∧ (∀ k, U' k → U k ∨ hd'.val.ownBlock = some k) ∧ (∀ k, S' k → S k ∨ hd'.val.ownBlock = some k) ∧ Chg S w (w.setCell ⟨g, 2, none⟩ hd'.val) := by
  subst hfoot
  have hc : Chg (fun k => k = g) w (w.setCell ⟨g, 2, none⟩ hd'.val) := Chg.setCell (S := fun k => k = g) (p := ⟨g, 2, none⟩) rfl _
  have hgr2 : g ≠ r := get_not_map hm hg
  refine ⟨footL g r hd', fun k => U k ∨ hd'.val.ownBlock = some k, ⟨hd', r, ps ++ [p], nm, rfl, ⟨?_, ?_⟩, get?_poke hg (header_set M hd hd' r), by rw [blkFree_setCell]; exact hf, ho.chg hc (fun k hk e => hne (by rw [hk, e])), hne, ?_, mapAt_setCell _ _ hm, hnm⟩, fun k hk => hk, ?_, hc.sub (fun k e => .inl e)⟩
  · rintro k (rfl | rfl | hk)
    · exact .inl (hsub _ (.inl rfl))
    · exact .inl (hsub _ (.inr (.inl rfl)))
    · exact .inr hk
  · rintro k (hk | hk)
    · exact Nat.lt_of_lt_of_le (hlt k hk) hc.size
    · exact Nat.lt_of_lt_of_le (ho.lt k hk).2 hc.size
  · have h2 : R2 (PlaceIs (fun k => (U k ∨ hd'.val.ownBlock = some k) ∧ ¬ footL g r hd' k) (w.setCell ⟨g, 2, none⟩ hd'.val)) [p] [m] := by
      refine ⟨⟨hp.1, hp.2.1, ?_⟩, trivial⟩
      rw [hp.2.2.1, hp.2.2.2]
      exact ⟨Sl.nil, Nat.le_refl _, Nat.zero_le _, fun h => absurd h (by decide)⟩
    refine R2.append h2 (hr.mono fun a b hab => ⟨hab.1, hab.2.1, (hab.2.2.chg hc (fun k hk e => hk.2 (.inl e))).mono fun k _ hk => ⟨.inl hk.1, ?_⟩⟩)
    rintro (h1 | h1 | h1)
    · exact hk.2 (.inl h1)
    · exact hk.2 (.inr (.inl h1))
    · rcases hfresh k h1 with h2 | h2
      · exact hk.2 h2
      · exact h2 hk.1
  · rintro k (hk | hk | hk)
    · exact .inl (.inl hk)
    · exact .inl (.inr (.inl hk))
    · exact .inr hk
end
end Go.Proofs.Yteockodnfempfaa
/- What Apply computes. Conditions: those named in each theorem. -/
namespace Go.Proofs.Yteockodnfempfaa
open Go Go.RowKit Go.Gv Go.Sort Go.Proofs

def openF (M : MLedger) (l : List (Int × List U8)) : MLedger := l.foldl (fun M o => endM M o.1 2 o.2) M
def tombF (M : MLedger) (l : List Int) : MLedger := l.foldl (fun M i => endM M i 3 []) M
theorem openF_snoc (M : MLedger) (l : List (Int × List U8)) (o : Int × List U8) : openF M (l ++ [o]) = endM (openF M l) o.1 2 o.2 := by unfold openF; rw [List.foldl_append]; rfl
theorem tombF_snoc (M : MLedger) (l : List Int) (i : Int) : tombF M (l ++ [i]) = endM (tombF M l) i 3 [] := by unfold tombF; rw [List.foldl_append]; rfl
/-- What stays of a ledger whose places end. -/
structure SameL (M M' : MLedger) : Prop where
  epoch : M'.epoch = M.epoch
  last : M'.last = M.last
  done : M'.done = M.done
  len : M'.l.length = M.l.length
  ents : M'.l.map (·.e) = M.l.map (·.e)
theorem SameL.rf (M : MLedger) : SameL M M := ⟨rfl, rfl, rfl, rfl, rfl⟩
theorem SameL.tr {A B C : MLedger} (h : SameL A B) (k : SameL B C) : SameL A C := ⟨k.epoch.trans h.epoch, k.last.trans h.last, k.done.trans h.done, k.len.trans h.len, k.ents.trans h.ents⟩
theorem SameL.names {A B : MLedger} (h : SameL A B) : namesL B = namesL A := by
  have : ∀ l : List MPlace, l.map (·.e.name) = (l.map (·.e)).map (·.name) := fun l => by rw [List.map_map]; rfl
  unfold namesL
  rw [this, this, h.ents]
theorem endM_same (M : MLedger) (i st : Int) (pay : List U8) : SameL M (endM M i st pay) := by
  unfold endM
  split
  · split
    · rename_i m hm
      refine ⟨rfl, rfl, rfl, by simp, ?_⟩
      apply List.ext_getElem?
      intro k
      rw [List.getElem?_map, List.getElem?_map, List.getElem?_set]
      by_cases hk : i.toNat = k
      · subst hk
        rw [if_pos rfl]
        split
        · rw [hm]; rfl
        · rename_i hlt
          rw [List.getElem?_eq_none (by omega)]
      · rw [if_neg hk]
    · exact SameL.rf M
  · exact SameL.rf M
theorem openF_same : ∀ (l : List (Int × List U8)) (M : MLedger), SameL M (openF M l)
  | [], M => SameL.rf M
  | o :: l, M => (endM_same M o.1 2 o.2).tr (openF_same l (endM M o.1 2 o.2))
theorem tombF_same : ∀ (l : List Int) (M : MLedger), SameL M (tombF M l)
  | [], M => SameL.rf M
  | i :: l, M => (endM_same M i 3 []).tr (tombF_same l (endM M i 3 []))
def refuseB (M : MLedger) (B : MBatch) : Bool := decide (¬ B.epoch = M.epoch) || decide (B.time ≤ M.last)
def newP (e : GEntry) : MPlace := ⟨e, 1, []⟩
def endedM (M : MLedger) (B : MBatch) : MLedger := tombF (openF M B.opens) B.tombs
def appliedM (M : MLedger) (B : MBatch) (es : List GEntry) : MLedger := ⟨M.epoch + 1, B.time, (endedM M B).l ++ es.map newP, M.done⟩
def ApplyNo (g : Nat) (S U : Nat → Prop) (M : MLedger) (w : World) (e : Ending) (w' : World) : Prop := e = .returned (.tuple #[.int .i64 0, .int .i64 1]) ∧ LedgerIs w' g S U M ∧ Bel w w'
def ApplyYes (g : Nat) (S U : Nat → Prop) (M : MLedger) (B : MBatch) (w : World) (e : Ending) (w' : World) : Prop :=
  ∃ (es : List GEntry) (S' U' : Nat → Prop), EntriesOf M.last (namesL M) B es ∧ e = .returned (.tuple #[.int .i64 (es.length : Nat), .int .i64 0]) ∧ LedgerIs w' g S' U' (appliedM M B es) ∧ (∀ k, U' k → U k ∨ w.heap.size ≤ k) ∧ (∀ k, S' k → S k ∨ w.heap.size ≤ k) ∧ Chg S w w'
set_option maxRecDepth 100000 in
set_option maxHeartbeats 1000000 in
theorem apply_no (g : Nat) (S U : Nat → Prop) (M : MLedger) (x : GBatch) (B : MBatch) (Q : Nat → Prop) (w : World) (h : LedgerIs w g S U M) (hx : BatchIs Q w x B) (hr : refuseB M B = true) :
    Calls Try.prog 42 #[.pointer (some ⟨g, 0, none⟩), x.val] w (ApplyNo g S U M w) := by
  have H := Lib.hid h
  obtain ⟨hd, r, hg, hl⟩ := h.len
  have hgA := get?_alloc (.cells x.enc.toArray 74) hg
  obtain ⟨f0, f1, _, _, _⟩ := ledger_cells hgA
  have hgx := get?_new (w := w) 74 x
  have f3 : (w.alloc (.cells x.enc.toArray 74)).cell? ⟨w.heap.size, 0, none⟩ = some (.int .i64 B.epoch) := by
    have := GBatch.at_epoch hgx
    rw [hx.epoch] at this
    exact cell_zero this
  have f4 : (w.alloc (.cells x.enc.toArray 74)).cell? ⟨w.heap.size, 1, none⟩ = some (.int .u64 B.time) := by
    have := GBatch.at_time hgx
    rw [hx.time] at this
    exact cell_off (by omega) this
  have HB := Lib.hid ((Bel.refl w).alloc (.cells x.enc.toArray 74))
  simp only at f0 f1
  clear hgA hgx hx hg hl h
  by_cases he : B.epoch = M.epoch
  · have ht : B.time ≤ M.last := by unfold refuseB at hr; simpa [he] using hr
    have heb : (B.epoch != M.epoch) = false := by simpa using he
    have htd : decide (B.time ≤ M.last) = true := by simpa using ht
    clear hr he ht
    go_enter Try.func42, Try.ntmps42
    go_wp2_with fail
    generalize w.alloc (.cells x.enc.toArray 74) = w1 at f0 f1 f3 f4 HB ⊢
    go_quiet (fail)
    go_wp2_with fail
    go_ret2
    exact ⟨rfl, H.out.bel (HB.out.drewN _), HB.out.drewN _⟩
  · have heb : (B.epoch != M.epoch) = true := by simpa using he
    clear hr he
    go_enter Try.func42, Try.ntmps42
    go_wp2_with fail
    generalize w.alloc (.cells x.enc.toArray 74) = w1 at f0 f1 f3 f4 HB ⊢
    go_quiet (fail)
    go_wp2_with fail
    go_ret2
    exact ⟨rfl, H.out.bel (HB.out.drewN _), HB.out.drewN _⟩
end Go.Proofs.Yteockodnfempfaa
/- What Apply computes, when it takes a batch. Conditions: those named in each theorem. -/
namespace Go.Proofs.Yteockodnfempfaa
open Go Go.RowKit Go.Gv Go.Sort Go.Proofs

theorem ge_last {B : MBatch} {M : MLedger} (hr : refuseB M B = false) : B.epoch = M.epoch ∧ M.last < B.time := by
  unfold refuseB at hr
  simp only [Bool.or_eq_false_iff, decide_eq_false_iff_not] at hr
  exact ⟨by simpa using hr.1, by omega⟩
theorem new_name {last T : Int} {S : List GName} {es : List GEntry} (h : EntriesAre last T S es) {k : Nat} {e : GEntry} (he : es[k]? = some e) : e.name ∉ S ∧ e.name ∉ (es.take k).map (·.name) := by
  refine ⟨(h.is e (List.mem_of_getElem? he)).2.2, fun hm => ?_⟩
  have hn := h.nodup
  have hk : k < es.length := (List.getElem?_eq_some_iff.1 he).1
  have hsp : es = es.take k ++ e :: es.drop (k + 1) := by
    rw [← (List.getElem?_eq_some_iff.1 he).2, List.getElem_cons_drop, List.take_append_drop]
  rw [hsp, List.map_append, List.map_cons] at hn
  have := (List.nodup_append.1 hn).2.2 _ hm e.name (by simp)
  exact this rfl
/-- A ledger with k entries more. -/
def moreM (M : MLedger) (es : List GEntry) (k : Nat) : MLedger := { M with l := M.l ++ (es.take k).map newP }
theorem moreM_zero (M : MLedger) (es : List GEntry) : moreM M es 0 = M := by unfold moreM; simp
theorem moreM_succ {M : MLedger} {es : List GEntry} {k : Nat} {e : GEntry} (he : es[k]? = some e) : moreM M es (k + 1) = { moreM M es k with l := (moreM M es k).l ++ [newP e] } := by
  unfold moreM
  rw [List.take_add_one, he, Option.toList_some, List.map_append, List.map_singleton, List.append_assoc]
theorem moreM_len (M : MLedger) {es : List GEntry} {k : Nat} (hk : k ≤ es.length) : (moreM M es k).l.length = M.l.length + k := by
  unfold moreM
  rw [List.length_append, List.length_map, List.length_take, Nat.min_eq_left hk]
theorem moreM_new {M0 M : MLedger} {B : MBatch} {es : List GEntry} (hs : SameL M0 M) (h : EntriesAre M0.last B.time (namesL M0) es) {k : Nat} {e : GEntry} (he : es[k]? = some e) : (newP e).e.name ∉ (moreM M es k).l.map (·.e.name) := by
  obtain ⟨h1, h2⟩ := new_name h he
  unfold moreM
  rw [List.map_append, List.mem_append]
  rintro (hm | hm)
  · rw [← hs.names] at h1
    exact h1 hm
  · rw [List.map_map] at hm
    exact h2 hm
set_option maxRecDepth 100000 in
set_option maxHeartbeats 8000000 in
theorem apply_yes (g : Nat) (S U : Nat → Prop) (M : MLedger) (x : GBatch) (B : MBatch) (Q : Nat → Prop) (w : World) (h : LedgerIs w g S U M) (hx : BatchIs Q w x B) (hQ : ∀ k, Q k → ¬ U k) (hr : refuseB M B = false)
    (he0 : 0 ≤ M.epoch) (he1 : M.epoch ≤ 1000000) (hml : M.l.length ≤ 1000000) (hfl : B.proms.flatten.length ≤ 1000000) :
    Calls Try.prog 42 #[.pointer (some ⟨g, 0, none⟩), x.val] w (ApplyYes g S U M B w) := by
  have H := Lib.hid h
  obtain ⟨hd, r, hg, hl⟩ := h.len
  have hgA := get?_alloc (.cells x.enc.toArray 74) hg
  obtain ⟨f0, f1, _, _, _⟩ := ledger_cells hgA
  have hgx := get?_new (w := w) 74 x
  have hsU := h.sub
  have hSl := h.lt
  have f3 : (w.alloc (.cells x.enc.toArray 74)).cell? ⟨w.heap.size, 0, none⟩ = some (.int .i64 B.epoch) := by
    have := GBatch.at_epoch hgx
    rw [hx.epoch] at this
    exact cell_zero this
  have f4 : (w.alloc (.cells x.enc.toArray 74)).cell? ⟨w.heap.size, 1, none⟩ = some (.int .u64 B.time) := by
    have := GBatch.at_time hgx
    rw [hx.time] at this
    exact cell_off (by omega) this
  have f5 : (w.alloc (.cells x.enc.toArray 74)).cell? ⟨w.heap.size, 3, none⟩ = some (.slice x.openings.a x.openings.len x.openings.cap) := cell_off (by omega) (GBatch.at_openings hgx)
  have f6 : (w.alloc (.cells x.enc.toArray 74)).cell? ⟨w.heap.size, 4, none⟩ = some (.slice x.tombs.a x.tombs.len x.tombs.cap) := cell_off (by omega) (GBatch.at_tombs hgx)
  have HB := Lib.hid ((Bel.refl w).alloc (.cells x.enc.toArray 74))
  have HGX := Lib.hid hgx
  have hz1 : (w.alloc (.cells x.enc.toArray 74)).heap.size = w.heap.size + 1 := by simp
  simp only at f0 f1
  obtain ⟨heq, htl⟩ := ge_last hr
  have heb : (B.epoch != M.epoch) = false := by simpa using heq
  have htd : decide (B.time ≤ M.last) = false := by simpa using htl
  have HX := Lib.hid hx
  have HQS := Lib.hid (show ∀ k, Q k → ¬ S k from fun k hk hs => hQ k hk (hsU k hs))
  have HQ := Lib.hid hQ; have HSL := Lib.hid hSl; have HSU := Lib.hid hsU; have HSB := Lib.hid (show ¬ S w.heap.size from fun hs => by have := hSl _ hs; omega)
  obtain ⟨no, hno⟩ : ∃ n, x.openings.len = n := ⟨_, rfl⟩
  obtain ⟨nt, hnt⟩ : ∃ n, x.tombs.len = n := ⟨_, rfl⟩
  obtain ⟨os, hos, hor⟩ := hx.opens
  obtain ⟨ts, hts, htr⟩ := hx.tombs
  have hnol : os.length = no := by rw [← hno]; exact hos.1.1
  have hntl : ts.length = nt := by rw [← hnt]; exact hts.1.1
  have hnob : no ≤ 9223372036854775807 := by have := hos.2.1; have := hos.2.2.1; unfold maxLen at *; omega
  have hntb : nt ≤ 9223372036854775807 := by have := hts.2.1; have := hts.2.2.1; unfold maxLen at *; omega
  have HOS := Lib.hid hos; have HOR := Lib.hid hor; have HTS := Lib.hid hts; have HTR := Lib.hid htr
  clear hgA hgx hx hg hl h hr heq htl hQ hSl hsU hos hor hts htr
  go_enter Try.func42, Try.ntmps42
  go_wp2_with fail
  generalize w.alloc (.cells x.enc.toArray 74) = w1 at f0 f1 f3 f4 f5 f6 HB HGX hz1 ⊢
  go_quiet (fail)
  go_wp2_with fail
  have F3 := Lib.hid f3; have F4 := Lib.hid f4; have F6 := Lib.hid f6
  clear f0 f1 f3 f4 f5 f6 heb htd
  go_loopw [32] (fun i wr => ∃ (k : Nat) (U' : Nat → Prop), k ≤ no ∧ i = .int .i64 k ∧ LedgerIs wr g S U' (openF M (B.opens.take k)) ∧ (∀ q, U' q → U q ∨ w.heap.size ≤ q) ∧ Chg S w1 wr) (fun i _ => no - (intOf i).toNat)
  case atStart => exact ⟨0, U, by omega, rfl, H.out.bel (HB.out.drewN _), fun _ h => .inl h, Chg.of_bel (bdN (Below.refl _ _) _) S⟩
  case round =>
    obtain ⟨k, U', hk, rfl, hL, hU, hC⟩ := hrel
    have HL := Lib.hid hL; have HU := Lib.hid hU; have HC := Lib.hid hC; clear hL hU hC
    have hzr := HC.out.size
    have HCW := Lib.hid ((Chg.of_bel HB.out S).tr HC.out)
    by_cases hlt : k < no
    · have hosk := (HOS.out.chg HCW.out HQS.out).1
      rw [hno] at hosk
      obtain ⟨ad, o, hA, _, hok, hgo⟩ := hosk.at_ (k := k) hlt
      obtain ⟨m, hmk, hom⟩ := HOR.out.at_ hok
      change get? GOpening wr (ad.add (k * 34)) = some o at hgo
      rw [hA]
      have hgb := get?_new (w := wr) 94 o
      have f7 : (wr.alloc (.cells o.enc.toArray 94)).cell? ⟨wr.heap.size, 0, none⟩ = some (.int .i64 m.1) := by
        have := GOpening.at_index hgb
        rw [hom.1] at this
        exact cell_zero this
      have f8 : (wr.alloc (.cells o.enc.toArray 94)).cell? ⟨wr.heap.size, 1, none⟩ = some (.slice o.payload.a o.payload.len o.payload.cap) := cell_off (by omega) (GOpening.at_payload hgb)
      have hpl : o.payload.len ≤ 1000000 := by rw [← hom.2.1.1.1]; exact hom.2.2
      have hab := (Bel.refl wr).alloc (.cells o.enc.toArray 94)
      have hE := end_any' g S U' (openF M (B.opens.take k)) m.1 2 o.payload.a o.payload.len o.payload.cap m.2 (wr.alloc (.cells o.enc.toArray 94)) (HL.out.bel hab) ((hom.2.1.chg HCW.out HQS.out).bel hab).1 hpl
      have HE := Lib.hid hE; have HAB := Lib.hid hab
      have etk : openF M (B.opens.take (k + 1)) = endM (openF M (B.opens.take k)) m.1 2 m.2 := by rw [List.take_add_one, hmk]; exact openF_snoc M _ m
      have ETK := Lib.hid etk
      have hlt2 : (k : Int) < (no : Int) := by omega
      clear hosk hA hok hmk hom hgb hpl hab hE etk
      go_wp2_with fail
      refine HE.out.mono ?_
      rintro _ w6 ⟨rfl, U2, hL6, hU6, hC6⟩
      have hzw := HAB.out.size
      have HL6 := Lib.hid hL6; have HC6 := Lib.hid ((HC.out.tr (Chg.of_bel HAB.out S)).tr hC6)
      have HU6 := Lib.hid (show ∀ q, U2 q → U q ∨ w.heap.size ≤ q from fun q hq => by
        rcases hU6 q hq with h | h
        · exact HU.out q h
        · exact .inr (by omega))
      clear hL6 hU6 hC6 f7 f8
      go_wp2_with fail
      exact ⟨⟨k + 1, U2, by omega, by go_num, by rw [ETK.out]; exact HL6.out, HU6.out, HC6.out⟩, by simp [intOf]; omega⟩
    · have hkn : k = no := by omega
      subst hkn
      have hot : openF M (B.opens.take k) = openF M B.opens := by rw [List.take_of_length_le (by rw [← HOR.out.len, hnol]; omega)]
      rw [hot] at HL
      have f6 : wr.cell? ⟨w.heap.size, 4, none⟩ = some (.slice x.tombs.a x.tombs.len x.tombs.cap) := HC.out.cell F6.out HSB.out
      clear hot
      go_wp2_with fail
      clear f6
      go_loopw [46] (fun i wr => ∃ (k : Nat) (U' : Nat → Prop), k ≤ nt ∧ i = .int .i64 k ∧ LedgerIs wr g S U' (tombF (openF M B.opens) (B.tombs.take k)) ∧ (∀ q, U' q → U q ∨ w.heap.size ≤ q) ∧ Chg S w1 wr) (fun i _ => nt - (intOf i).toNat)
      case atStart => exact ⟨0, U', by omega, rfl, HL.out, HU.out, HC.out⟩
      case round =>
        obtain ⟨j, U2, hj, rfl, hL, hU2, hC2⟩ := hrel
        have HL2 := Lib.hid hL; have HU2 := Lib.hid hU2; have HC2 := Lib.hid hC2; clear hL hU2 hC2
        have hzr2 := HC2.out.size
        have HCW2 := Lib.hid ((Chg.of_bel HB.out S).tr HC2.out)
        by_cases hltj : j < nt
        · have htsk := (HTS.out.chg HCW2.out HQS.out).1
          rw [hnt] at htsk
          obtain ⟨ad, o, hA, _, hok, hgo⟩ := htsk.at_ (k := j) hltj
          obtain ⟨m, hmk, hom⟩ := HTR.out.at_ hok
          change get? GTomb wr (ad.add (j * 2)) = some o at hgo
          rw [hA]
          have hgb := get?_new (w := wr) 97 o
          have f7 : (wr.alloc (.cells o.enc.toArray 97)).cell? ⟨wr.heap.size, 0, none⟩ = some (.int .i64 m) := by
            have := GTomb.at_index hgb
            rw [show o.index = m from hom] at this
            exact cell_zero this
          have hab := (Bel.refl wr).alloc (.cells o.enc.toArray 97)
          have hE := end_any' g S U2 (tombF (openF M B.opens) (B.tombs.take j)) m 3 none 0 0 [] (wr.alloc (.cells o.enc.toArray 97)) (HL2.out.bel hab) Sl.nil (by omega)
          have HE := Lib.hid hE; have HAB := Lib.hid hab
          have etk : tombF (openF M B.opens) (B.tombs.take (j + 1)) = endM (tombF (openF M B.opens) (B.tombs.take j)) m 3 [] := by rw [List.take_add_one, hmk]; exact tombF_snoc _ _ m
          have ETK := Lib.hid etk
          have hltj2 : (j : Int) < (nt : Int) := by omega
          clear htsk hA hok hmk hom hgb hab hE etk
          go_wp2_with fail
          refine HE.out.mono ?_
          rintro _ w6 ⟨rfl, U3, hL6, hU6, hC6⟩
          have hzw := HAB.out.size
          have HL6 := Lib.hid hL6; have HC6 := Lib.hid ((HC2.out.tr (Chg.of_bel HAB.out S)).tr hC6)
          have HU6 := Lib.hid (show ∀ q, U3 q → U q ∨ w.heap.size ≤ q from fun q hq => by
            rcases hU6 q hq with h | h
            · exact HU2.out q h
            · exact .inr (by omega))
          clear hL6 hU6 hC6 f7
          go_wp2_with fail
          exact ⟨⟨j + 1, U3, by omega, by go_num, by rw [ETK.out]; exact HL6.out, HU6.out, HC6.out⟩, by simp [intOf]; omega⟩
        · have hjn : j = nt := by omega
          subst hjn
          have hot : tombF (openF M B.opens) (B.tombs.take j) = endedM M B := by rw [List.take_of_length_le (by rw [← HTR.out.len, hntl]; omega)]; rfl
          have hL2 := HL2.out
          rw [hot] at hL2
          have hsame : SameL M (endedM M B) := (openF_same _ _).tr (tombF_same _ _)
          clear HL2 hot
          have HL3 := Lib.hid hL2
          obtain ⟨hd2, r2, hg2, hl2⟩ := hL2.len
          obtain ⟨_, f1, _, _, _⟩ := ledger_cells hg2
          simp only [hsame.last] at f1
          have f9 : get? GBatch wr ⟨w.heap.size, 0, none⟩ = some x := HC2.out.get HGX.out HSB.out
          have HSAME := Lib.hid hsame
          have HXW := Lib.hid (HX.out.chg HCW2.out HQS.out)
          clear hg2 hl2 hL2 hsame
          go_wp2_with fail
          refine wp_region_G GB [] GB.rf (by kernel_rfl) ?_
          refine wpG_looks 3 9 [0,1,2,3,4,6] rfl GB.rf GB.tr (by kernel_rfl) (fun _ _ _ _ hd h => And.intro (hd ▸ And.left h) (And.right h)) rfl (by kernel_rfl) ?_
          intro ι W hne CW
          have g1 := fun z => (CW.out z).cell f1
          have g9 := fun z => (CW.out z).get f9
          repeat (refine wpLooksG_step (fun K hK => ?_); go_simp; refine hK _ ?_; clear hK K)
          refine wpLooksG_nil ?_
          clear g1 g9 CW hne W ι
          refine wpG_force 5 _ rfl (by kernel_rfl) rfl fun wa hwa K hK => ?_
          go_simp
          refine (logged_any g S U2 (endedM M B) wa (HL3.out.bel hwa.undrew)).mono ?_
          rintro _ wb ⟨rm, nm, rfl, hnm, hset, _, hbb⟩
          rw [HSAME.out.names] at hset
          refine hK _ _ (fun _ => hbb) ?_
          clear hK K
          refine wpG_force 7 _ rfl (by kernel_rfl) rfl fun wc hwc K hK => ?_
          go_simp
          have hbc : Bel wr wc := (hwa.undrew.trans hbb).trans hwc
          refine (entries_any M.last rm nm (namesL M) x B Q wc (HXW.out.bel hbc) ((mapAt_below hwc (mapAt_lt hnm)).trans hnm) hset hfl).mono ?_
          rintro _ wd ⟨es, he, rfl, hes, hsl, hbd⟩
          refine hK _ _ (fun _ => hbd) ?_
          clear hK K
          refine wpG_force 8 _ rfl (by kernel_rfl) rfl fun we hwe K hK => ?_
          go_simp
          refine hK _ _ (fun _ => GB.rf _) ?_
          clear hK K
          refine wpG_end (by kernel_rfl) (fun wn hwn => ?_) _
          have hbn : Bel wr wn := ((hbc.trans hbd).trans hwe).trans hwn
          have hsn := (hsl.bel (Bel.trans hwe hwn)).mono (Q' := fun k => w.heap.size < k) (fun k _ hk => by have := hbc.size; have := HC2.out.size; omega)
          have HSN := Lib.hid hsn; have HES := Lib.hid hes
          have HL4 := Lib.hid (HL3.out.bel hbn); have HC4 := Lib.hid (HC2.out.tr (Chg.of_bel hbn S))
          clear hwa hwc hwe hwn hbb hbc hbd hbn hnm hset hsl hsn hes f1 f9 HL3 HXW
          obtain ⟨hare, hesl⟩ := HES.out.are
          have HARE := Lib.hid hare
          obtain ⟨n, hn⟩ : ∃ n, he.len = n := ⟨_, rfl⟩
          have hen : es.length = n := by rw [← hn]; exact HSN.out.1.1
          have HEN := Lib.hid hen
          have hnb : n ≤ 1000000 := by rw [← hen]; omega
          have hzn := HC4.out.size
          clear hare
          go_wp2_with fail
          go_loopw [65] (fun i wr => ∃ (k : Nat) (S' U' : Nat → Prop), k ≤ n ∧ i = .int .i64 k ∧ LedgerIs wr g S' U' (moreM (endedM M B) es k) ∧ (∀ q, U' q → U2 q ∨ wn.heap.size ≤ q) ∧ (∀ q, S' q → S q ∨ wn.heap.size ≤ q) ∧ Chg S wn wr) (fun i _ => n - (intOf i).toNat)
          case atStart => exact ⟨0, S, U2, by omega, rfl, by rw [moreM_zero]; exact HL4.out, fun _ h => .inl h, fun _ h => .inl h, Chg.refl _ _⟩
          case round =>
            obtain ⟨i, S', U3, hi, rfl, hL5, hU5, hS5, hC5⟩ := hrel
            have HL5 := Lib.hid hL5; have HU5 := Lib.hid hU5; have HS5 := Lib.hid hS5; have HC5 := Lib.hid hC5
            have hz5 := HC5.out.size
            clear hL5 hU5 hS5 hC5
            by_cases hlti : i < n
            · have hsk := (HSN.out.chg HC5.out (fun q hq hs => by have := HSL.out q hs; omega)).1
              rw [hn] at hsk
              obtain ⟨ad, e, hA, _, hek, hge⟩ := hsk.at_ (k := i) hlti
              change get? GEntry wr (ad.add (i * 35)) = some e at hge
              rw [hA]
              have hnew := moreM_new HSAME.out HARE.out hek
              have hsucc := moreM_succ (M := endedM M B) hek
              have hlenk := moreM_len (endedM M B) (es := es) (k := i) (by rw [HEN.out]; omega)
              have HNEW := Lib.hid hnew; have HSUCC := Lib.hid hsucc
              obtain ⟨q, hq⟩ : ∃ q, (moreM (endedM M B) es i).l.length = q := ⟨_, rfl⟩
              have hqb : q ≤ 2000000 := by rw [← hq, hlenk, HSAME.out.len]; omega
              have hab := (Bel.refl wr).alloc (.cells e.enc.toArray 30)
              obtain ⟨hd5, r5, ps5, nm5, hP5, hperm5⟩ := HL5.out.parts
              have hP6 := hP5.bel hab
              have hge6 := get?_new (w := wr) 30 e
              have hpl : ps5.length = q := by rw [← hq]; exact hP5.rel.len
              have hdl : hd5.val = .slice hd5.a q hd5.cap := by
                obtain ⟨A, c, hv, _⟩ := OwnS.ownA hP5.own
                unfold Hdr.val at hv ⊢
                injection hv with _ e2 _
                rw [e2, hpl]
              have HP6 := Lib.hid hP6; have HPM := Lib.hid hperm5; have HAB := Lib.hid hab; have HGE := Lib.hid hge6; have HDL := Lib.hid hdl; have HPL := Lib.hid hpl; have HQL := Lib.hid hq
              have hlti2 : (i : Int) < (n : Int) := by omega
              clear hsk hA hek hnew hsucc hlenk hP5 hP6 hperm5 hge6 hdl hab hpl hq
              go_wp2_with fail
              generalize hwz : wr.alloc (.cells e.enc.toArray 30) = wz at HP6 HAB HGE ⊢
              have hzz := HAB.out.size
              obtain ⟨_, _, c2, c3, _⟩ := ledger_cells HP6.out.get
              simp only at c3
              have c2' : wz.cell? ⟨g, 2, none⟩ = some (.slice hd5.a q hd5.cap) := by
                have := HDL.out
                unfold Hdr.val at this
                rw [← this]; exact c2
              have hn0 : get? GName wz ⟨wr.heap.size, 0, none⟩ = some e.name := by
                have := GEntry.at_name HGE.out
                rwa [Addr.add_zero'] at this
              refine wp_region_G GB [11] GB.rf (by kernel_rfl) ?_
              refine wpG_looks 1 12 [0,1,2,3,4,5,6,7,8,9,10] rfl GB.rf GB.tr (by kernel_rfl) (fun _ _ _ _ hd h => And.intro (hd ▸ And.left h) (And.right h)) rfl (by kernel_rfl) ?_
              intro ι W hne CW
              have g2 := fun z => (CW.out z).cell c2'
              have g3 := fun z => (CW.out z).cell c3
              have g4 := fun z => (CW.out z).get hn0
              repeat (refine wpLooksG_step (fun K hK => ?_); go_simp; refine hK _ ?_; clear hK K)
              refine wpLooksG_nil ?_
              clear g2 g3 g4 CW hne W ι c2
              refine wpG_force 11 _ rfl (by kernel_rfl) rfl fun wa hwa K hK => ?_
              have hPa := HP6.out.bel hwa.undrew
              have hma := hPa.map
              go_simp
              obtain ⟨hPb, hCb⟩ := hPa.put e.name (q : Int)
              have HPB := Lib.hid hPb; have HCB := Lib.hid hCb; have HBA := Lib.hid hwa.undrew
              have hgb : get? GEntry (mput Try.prog 161 wa r5 e.name (q : Int)) ⟨wr.heap.size, 0, none⟩ = some e := (mput_get kl25 um161 hma e.name (q : Int) _ _).trans (GB.get hwa.undrew HGE.out)
              have HGB := Lib.hid hgb
              clear hPa hma hPb hCb hgb hn0 c2' c3
              generalize mput Try.prog 161 wa r5 e.name (q : Int) = wb at HPB HCB HGB ⊢
              refine hK _ _ (fun h => absurd (by simp) h) ?_
              clear hK K hwa
              refine wpG_end (by kernel_rfl) (fun wc hwc => ?_) _
              have HPC := Lib.hid (HPB.out.bel hwc); have HGC := Lib.hid (GB.get hwc HGB.out)
              have hzbc := Bel.size hwc
              have HCC := Lib.hid ((((Chg.of_bel HAB.out S').tr (Chg.of_bel HBA.out S')).tr HCB.out).tr (Chg.of_bel hwc S'))
              clear hwc HPB HGB HCB HBA HP6 HGE
              go_wp2_with fail
              obtain ⟨_, _, c2, _, _⟩ := ledger_cells HPC.out.get
              have c2' : wc.cell? ⟨g, 2, none⟩ = some (.slice hd5.a q hd5.cap) := by
                have := HDL.out
                unfold Hdr.val at this
                rw [← this]; exact c2
              clear c2
              refine wp_region_G GB [8, 11] GB.rf (by kernel_rfl) ?_
              refine wpG_move 0 _ _ rfl rfl rfl GB.rf GB.tr (by kernel_rfl) (fun _ _ _ _ hd h => And.intro (hd ▸ And.left h) (And.right h)) (by kernel_rfl) ?_
              refine wpG_looks 5 11 [1,2,3,4,5,6] rfl GB.rf GB.tr (by kernel_rfl) (fun _ _ _ _ hd h => And.intro (hd ▸ And.left h) (And.right h)) rfl (by kernel_rfl) ?_
              intro ι W hne CW
              have g2 := fun z => (CW.out z).cell c2'
              have g3 := fun z => (CW.out z).get HGC.out
              repeat (refine wpLooksG_step (fun K hK => ?_); go_simp; refine hK _ ?_; clear hK K)
              refine wpLooksG_nil ?_
              clear g2 g3 CW hne W ι
              refine wpG_force 7 _ rfl (by kernel_rfl) rfl fun wd hwd K hK => ?_
              go_simp
              refine hK _ _ (fun _ => GB.al _ _) ?_
              clear hK K
              have hsl7 : Sl GLedgerPlace (wd.alloc (.cells (⟨e, 1, default⟩ : GLedgerPlace).enc.toArray 169)) (wd.heap.size + 1) (some ⟨wd.heap.size, 0, none⟩) 1 [⟨e, 1, default⟩] := Sl.new_ (by simp; rfl) rfl rfl (by omega)
              have hbe1 : Bel wc (wd.alloc (.cells (⟨e, 1, default⟩ : GLedgerPlace).enc.toArray 169)) := Bel.alloc (GB.undrew hwd) _
              have hzd : (wd.alloc (.cells (⟨e, 1, default⟩ : GLedgerPlace).enc.toArray 169)).heap.size = wd.heap.size + 1 := by simp
              generalize wd.alloc (.cells (⟨e, 1, default⟩ : GLedgerPlace).enc.toArray 169) = wd2 at hsl7 hbe1 hzd ⊢
              refine wpG_force 8 _ rfl (by kernel_rfl) rfl fun we hwe K hK => ?_
              have hbce : Bel wc we := hbe1.trans hwe
              have hPe := HPC.out.bel hbce
              have hze := Bel.size hwe
              have hzce := Bel.size hbce
              obtain ⟨v8, w8, hrun8, ho8, hg8, hob8⟩ := gAppend_S (P := Try.prog) ei162 (t := 162) hPe.own (c := 1) (m := 1) (A := some ⟨wd.heap.size, 0, none⟩) ((hsl7.below (Below.mono hwe (by omega))).more (B' := we.heap.size) (by omega)) (by rw [HPL.out]; unfold maxLen; omega) (by rw [HPL.out]; omega) (Nat.zero_le _) 162
              rw [HDL.out] at hrun8
              go_simp
              obtain ⟨A8, c8, hv8, _⟩ := OwnS.ownA ho8
              obtain ⟨hd8, hd8e⟩ : ∃ hd : Hdr, v8 = hd.val := ⟨⟨A8, (ps5 ++ [(⟨e, 1, default⟩ : GLedgerPlace)]).length, c8⟩, hv8⟩
              subst hd8e
              obtain ⟨a1, a2, a3, a4, a5⟩ := hPe.app hg8
              have A1 := Lib.hid a1; have A2 := Lib.hid a2; have A3 := Lib.hid a3; have A4 := Lib.hid a4; have A5 := Lib.hid (((HCC.out.tr (Chg.of_bel hbce S'))).tr a5); have HO8 := Lib.hid ho8
              have hz8 := hg8.size
              have hfresh8 : ∀ k, hd8.val.ownBlock = some k → S' k ∨ ¬ U3 k := fun k hk => by
                rcases hob8 with h | h
                · left; rw [HPC.out.foot]; exact .inr (.inr (by rw [← h]; exact hk))
                · right; rw [h] at hk; injection hk with hk
                  intro hu
                  have := HPC.out.lt k hu
                  have := hbce.size
                  omega
              have hne8 : hd8.val.ownBlock ≠ some g := fun hk => by
                rcases hob8 with h | h
                · exact HPC.out.ne (by rw [← h]; exact hk)
                · rw [h] at hk; injection hk with hk
                  have := get?_lt HPC.out.get
                  have := hbce.size
                  have h3 : g < wc.heap.size := get?_lt HPC.out.get
                  omega
              have hnew8 : ∀ k, hd8.val.ownBlock = some k → S' k ∨ wn.heap.size ≤ k := fun k hk => by
                rcases hob8 with h | h
                · left; rw [HPC.out.foot]; exact .inr (.inr (by rw [← h]; exact hk))
                · right; rw [h] at hk; injection hk with hk
                  have h1 := hbce.size
                  have h2 := HCC.out.size
                  omega
              have HF8 := Lib.hid hfresh8; have HN8 := Lib.hid hne8; have HW8 := Lib.hid hnew8
              clear hrun8 ho8 hg8 hob8 hv8 a1 a2 a3 a4 a5 hfresh8 hne8 hnew8 hPe
              refine hK _ _ (fun h => absurd (by simp) h) ?_
              clear hK K hwe hwd hbe1 hbce hsl7
              refine wpG_force 9 _ rfl (by kernel_rfl) rfl fun wf hwf K hK => ?_
              go_simp
              refine hK _ _ (fun _ => GB.rf _) ?_
              clear hK K
              refine wpG_force 10 _ rfl (by kernel_rfl) rfl fun wg hwg K hK => ?_
              go_simp
              refine hK _ _ (fun _ => GB.rf _) ?_
              clear hK K
              refine wpG_force 11 _ rfl (by kernel_rfl) rfl fun wh hwh K hK => ?_
              have hb8 : Bel w8 wh := Bel.trans (Bel.trans hwf hwg) hwh
              have hgl := GB.get hb8 A1.out
              obtain ⟨_, _, c2, _, _⟩ := ledger_cells hgl
              have z2 : wh.frozen? ⟨g, 2, none⟩ = false := frozen_of_free (a := ⟨g, 2, none⟩) ((blkFree_keep (hb8.block _ (get?_lt A1.out))).trans A2.out)
              go_simp
              obtain ⟨S9, U9, hL9, hU9, hS9, hC9⟩ := push_is (hd' := hd8) (m := newP e) (p := ⟨e, 1, default⟩) HPC.out.foot HPC.out.sub (fun k hk => by have := HPC.out.lt k hk; have := Bel.size hb8; omega) hgl ((blkFree_keep (hb8.block _ (get?_lt A1.out))).trans A2.out) (A3.out.mono fun a b hab => ⟨hab.1, hab.2.1, hab.2.2.bel hb8⟩) ((mapAt_below hb8 (mapAt_lt A4.out)).trans A4.out) (HO8.out.step hb8) HN8.out HF8.out ⟨rfl, rfl, rfl, rfl⟩ (by rw [← HQL.out]; exact names_push HPM.out HNEW.out)
              rw [← HSUCC.out] at hL9
              have HL9 := Lib.hid hL9; have HU9 := Lib.hid hU9; have HS9 := Lib.hid hS9; have HC9 := Lib.hid ((A5.out.tr (Chg.of_bel hb8 S')).tr hC9)
              clear hL9 hU9 hS9 hC9 hgl c2 z2 hwf hwg hwh hb8
              change K _ (wh.setCell ⟨g, 2, none⟩ hd8.val)
              generalize wh.setCell ⟨g, 2, none⟩ hd8.val = wi at HL9 HC9 ⊢
              refine hK _ _ (fun h => absurd (by simp) h) ?_
              clear hK K
              refine wpG_end (by kernel_rfl) (fun wj hwj => ?_) _
              have HL10 := Lib.hid (HL9.out.bel hwj); have HC10 := Lib.hid (HC9.out.tr (Chg.of_bel hwj S')); clear hwj
              go_wp2_with fail
              refine ⟨⟨i + 1, by omega, by go_num, S9, U9, HL10.out, fun q hq => ?_, fun q hq => ?_, ?_⟩, by simp [intOf]; omega⟩
              · rcases HU9.out q hq with h | h
                · exact HU5.out q h
                · rcases HW8.out q h with h2 | h2
                  · rcases HS5.out q h2 with h3 | h3
                    · left; exact HL4.out.sub q h3
                    · exact .inr h3
                  · exact .inr h2
              · rcases HS9.out q hq with h | h
                · exact HS5.out q h
                · rcases HW8.out q h with h2 | h2
                  · exact HS5.out q h2
                  · exact .inr h2
              · exact HC5.out.trans HC10.out fun q hq => HS5.out q hq
            · have hin : i = n := by omega
              subst hin
              have hl5 := HL5.out
              have hmd : moreM (endedM M B) es i = ⟨M.epoch, M.last, (endedM M B).l ++ es.map newP, M.done⟩ := by
                unfold moreM
                rw [List.take_of_length_le (by rw [HEN.out]; exact Nat.le_refl _), HSAME.out.epoch, HSAME.out.last, HSAME.out.done]
              rw [hmd] at hl5
              obtain ⟨hd5, r5, hg5, hl5l⟩ := hl5.len
              obtain ⟨c0, c1, _, _, _⟩ := ledger_cells hg5
              simp only at c0 c1
              have hfr : blkFree wr g = true := by obtain ⟨_, _, _, _, _, _, _, hf, _⟩ := hl5; exact hf
              have z1 : wr.frozen? ⟨g, 1, none⟩ = false := frozen_of_free (a := ⟨g, 1, none⟩) hfr
              have f4 : wr.cell? ⟨w.heap.size, 1, none⟩ = some (.int .u64 B.time) := (HC4.out.tr HC5.out).cell F4.out HSB.out
              have p1 := LedgerIs.field (M' := ⟨M.epoch, B.time, (endedM M B).l ++ es.map newP, M.done⟩) hl5 rfl (j := 1) (v := .int .u64 B.time) (fun _ _ => rfl)
              have c0' : (wr.setCell ⟨g, 1, none⟩ (.int .u64 B.time)).cell? ⟨g, 0, none⟩ = some (.int .i64 M.epoch) := (World.cell?_setCell_other wr _ _ _ (fun h => by injection h with _ h _; omega)).trans c0
              have z0' : (wr.setCell ⟨g, 1, none⟩ (.int .u64 B.time)).frozen? ⟨g, 0, none⟩ = false := frozen_of_free (a := ⟨g, 0, none⟩) (by rw [blkFree_setCell]; exact hfr)
              have p2 := LedgerIs.field (M' := appliedM M B es) p1.1 rfl (j := 0) (v := .int .i64 (M.epoch + 1)) (fun _ _ => rfl)
              have P2 := Lib.hid p2.1
              have C2 := Lib.hid (p1.2.tr p2.2)
              clear hl5 hmd hg5 hl5l hfr p1 p2
              go_wp2_with fail
              go_ret2
              refine ⟨es, S', U3, HES.out, by rw [HEN.out]; rfl, P2.out, fun q hq => ?_, fun q hq => ?_, ?_⟩
              · have h0 := HB.out.size
                rcases HU5.out q hq with h | h
                · exact HU2.out q h
                · exact .inr (by omega)
              · have h0 := HB.out.size
                rcases HS5.out q hq with h | h
                · exact .inl h
                · exact .inr (by omega)
              · refine (((Chg.of_bel HB.out S).tr HC4.out).tr HC5.out).trans C2.out fun q hq => ?_
                have h0 := HB.out.size
                rcases HS5.out q hq with h | h
                · exact .inl h
                · exact .inr (by omega)
end Go.Proofs.Yteockodnfempfaa
