/- Three new messages beside what has changed. Conditions: those named in each theorem. -/
import Derived.Test.YtfhhcgldikmejaaGreatDoorP7
import Derived.Deep.CutBlock
import Derived.Deep.DeepCutAuto
import Derived.Test.YtfhhcgldikmejaaGreatDoorP4
/- SHA-256 as the document says it. Conditions: those named in each theorem. -/
namespace Go.Proofs.YtfhhcgldikmejaaGreatDoor
open Go Go.RowKit Go.Gv Go.Proofs

@[go_sem] theorem not_u32 : (if IntKind.u32.signed = true then (-1 : Int) else IntKind.u32.max) = 4294967295 := by decide
/-- The zeros that fill a text of n bytes up. -/
def padL (n : Nat) : Nat := (120 - (n + 1) % 64) % 64
/-- Bytes of a length. -/
def lenL (n : Nat) : List U8 := (List.range 8).map fun j => ⟨UInt8.ofNat (n * 8 / 2 ^ (8 * (7 - j)) % 256)⟩
def padded (xs : List U8) : List U8 := xs ++ [⟨128⟩] ++ List.replicate (padL xs.length) ⟨0⟩
theorem lenL_len (n : Nat) : (lenL n).length = 8 := by simp [lenL]
theorem lenL_take (n : Nat) {j : Nat} (h : j < 8) : (lenL n).take (j + 1) = (lenL n).take j ++ [⟨UInt8.ofNat (n * 8 / 2 ^ (8 * (7 - j)) % 256)⟩] := by
  rw [List.take_add_one]
  congr 1
  simp [lenL, h]
/-- How many blocks a text of n bytes has. -/
def nblk (n : Nat) : Nat := (n + 1 + padL n + 8) / 64
theorem full_len (xs : List U8) : (padded xs ++ lenL xs.length).length = 64 * nblk xs.length := by
  simp only [List.length_append, lenL_len, padded, List.length_cons, List.length_nil, List.length_replicate, nblk]
  unfold padL
  omega
def byteN (M : List U8) (p : Nat) : Int := ((M.getD p ⟨0⟩).v.toNat : Int)
theorem byteN_range (M : List U8) (p : Nat) : 0 ≤ byteN M p ∧ byteN M p < 256 := by
  unfold byteN
  have := (M.getD p ⟨0⟩).v.toNat_lt
  omega
/-- The word at p. -/
def wordB (M : List U8) (p : Nat) : Int := bits .or .u32 (bits .or .u32 (bits .or .u32 (byteN M p * 16777216) (byteN M (p + 1) * 65536)) (byteN M (p + 2) * 256)) (byteN M (p + 3))
theorem byte_cell {w : World} {B b n : Nat} {M : List U8} (h : Sl U8 w B (some ⟨b, 0, none⟩) n M) {j : Nat} (hj : j < n) : w.cell? ⟨b, j, none⟩ = some (.int .u8 (byteN M j)) := by
  obtain ⟨ad', x, e, _, hx, hg⟩ := h.at_ (k := j) hj
  injection e with e
  subst e
  have hc := get1 (α := U8) rfl hg
  rw [show Enc.n U8 = 1 from rfl, Nat.mul_one, addN, Nat.zero_add] at hc
  rw [hc]
  have : M.getD j ⟨0⟩ = x := by rw [List.getD_eq_getElem?_getD, hx]; rfl
  unfold byteN; rw [this]; rfl
theorem hash_cell {w : World} {g : Nat} {x : GHash} (h : get? GHash w ⟨g, 0, none⟩ = some x) {i : Nat} (hi : i < 32) : ∃ u, w.cell? ⟨g, i, none⟩ = some u := by
  have hl : i < x.l.length := by rw [x.h]; exact hi
  have := (get?_iff.1 h) i (encU8 x.l[i]) (by show (x.l.map encU8)[i]? = _; rw [List.getElem?_map, List.getElem?_eq_getElem hl]; rfl)
  rw [addN, Nat.zero_add] at this
  exact ⟨_, this⟩
/-- The first words of a block. -/
def fillB (M : List U8) (p : Nat) : Nat → List Int
  | 0 => List.replicate 64 0
  | i + 1 => (fillB M p i).set i (wordB M (p + 4 * i))
theorem fillB_len (M : List U8) (p i : Nat) : (fillB M p i).length = 64 := by
  induction i with
  | zero => simp [fillB]
  | succ i ih => simp [fillB, ih]
def sig0 (x : Int) : Int := bits .xor .u32 (bits .xor .u32 (rotr 7 x) (rotr 18 x)) (x / 8)
def sig1 (x : Int) : Int := bits .xor .u32 (bits .xor .u32 (rotr 17 x) (rotr 19 x)) (x / 1024)
def extB (xs : List Int) (i : Nat) : List Int := xs.set i (IntKind.u32.wrap (IntKind.u32.wrap (IntKind.u32.wrap (xs.getD (i - 16) 0 + sig0 (xs.getD (i - 15) 0)) + xs.getD (i - 7) 0) + sig1 (xs.getD (i - 2) 0)))
def extN (xs : List Int) : Nat → List Int
  | 0 => xs
  | j + 1 => extB (extN xs j) (j + 16)
theorem extN_len (xs : List Int) (j : Nat) : (extN xs j).length = xs.length := by
  induction j with
  | zero => rfl
  | succ j ih => rw [extN, extB, List.length_set, ih]
def tOne (kk ww e f g h : Int) : Int := IntKind.u32.wrap (IntKind.u32.wrap (IntKind.u32.wrap (IntKind.u32.wrap (h + bits .xor .u32 (bits .xor .u32 (rotr 6 e) (rotr 11 e)) (rotr 25 e)) + bits .xor .u32 (bits .and .u32 e f) (bits .and .u32 (bits .xor .u32 4294967295 e) g)) + kk) + ww)
def tTwo (a b c : Int) : Int := IntKind.u32.wrap (bits .xor .u32 (bits .xor .u32 (rotr 2 a) (rotr 13 a)) (rotr 22 a) + bits .xor .u32 (bits .xor .u32 (bits .and .u32 a b) (bits .and .u32 a c)) (bits .and .u32 b c))
def rnd (kk ww : Int) (v : W8) : W8 := ⟨[(tOne kk ww (v.l.getD 4 0) (v.l.getD 5 0) (v.l.getD 6 0) (v.l.getD 7 0) + tTwo (v.l.getD 0 0) (v.l.getD 1 0) (v.l.getD 2 0)) % 4294967296, v.l.getD 0 0, v.l.getD 1 0, v.l.getD 2 0, (v.l.getD 3 0 + tOne kk ww (v.l.getD 4 0) (v.l.getD 5 0) (v.l.getD 6 0) (v.l.getD 7 0)) % 4294967296, v.l.getD 4 0, v.l.getD 5 0, v.l.getD 6 0], rfl⟩
/-- i rounds. -/
def rndN (ws : List Int) (v : W8) : Nat → W8
  | 0 => v
  | i + 1 => rnd (K256.l.getD i 0) (ws.getD i 0) (rndN ws v i)
/-- The first i words of v added. -/
def addN (h v : W8) : Nat → List Int
  | 0 => h.l
  | i + 1 => (addN h v i).set i (IntKind.u32.wrap ((addN h v i).getD i 0 + v.l.getD i 0))
theorem addN_len (h v : W8) (i : Nat) : (addN h v i).length = 8 := by
  induction i with
  | zero => exact h.h
  | succ i ih => rw [addN, List.length_set, ih]
/-- The words after k blocks. -/
def blkN (M : List U8) : Nat → W8
  | 0 => H256
  | k + 1 => ⟨addN (blkN M k) (rndN (extN (fillB M (64 * k) 16) 48) (blkN M k) 64) 8, addN_len _ _ _⟩
def hset (x : GHash) (i : Nat) (v : Int) : GHash := ⟨x.l.set i (UInt8.ofNat v.toNat), by simp [x.h]⟩
/-- The four bytes of a word, in their places. -/
def outB (v : Int) (x : GHash) (i : Nat) : GHash := hset (hset (hset (hset x (4 * i) (IntKind.u8.wrap (v / 16777216))) (4 * i + 1) (IntKind.u8.wrap (v / 65536))) (4 * i + 2) (IntKind.u8.wrap (v / 256))) (4 * i + 3) (IntKind.u8.wrap v)
theorem u8w_range (x : Int) : 0 ≤ IntKind.u8.wrap x ∧ IntKind.u8.wrap x < 256 := by
  have : IntKind.u8.wrap x = x % 256 := rfl
  rw [this]; omega
def outN (v : W8) : Nat → GHash
  | 0 => default
  | i + 1 => outB (v.l.getD i 0) (outN v i) i
/-- SHA-256. -/
def sumL (xs : List U8) : GHash := outN (blkN (padded xs ++ lenL xs.length) (nblk xs.length)) 8
theorem hash_set {w : World} {g : Nat} {x : GHash} (h : get? GHash w ⟨g, 0, none⟩ = some x) {i : Nat} (hi : i < 32) {v : Int} (h0 : 0 ≤ v) (h1 : v < 256) : get? GHash (w.setCell ⟨g, i, none⟩ (.int .u8 v)) ⟨g, 0, none⟩ = some (hset x i v) := by
  rw [get?_iff] at h ⊢
  have := atPokeV h (j := i) (by show i < (GHash.enc x).length; rw [GHash.enc_len]; exact hi) (.int .u8 v)
  have he : Enc.enc (hset x i v) = (Enc.enc x).set i (.int .u8 v) := by
    show (x.l.set i (UInt8.ofNat v.toNat)).map encU8 = (x.l.map encU8).set i (.int .u8 v)
    rw [List.map_set]
    congr 1
    show Value.int .u8 ((UInt8.ofNat v.toNat).toNat : Int) = _
    congr 1
    simp
    omega
  rw [he]; exact this
theorem gb_free {w w' : World} {g : Nat} (hb : Bel w w') (hl : g < w.heap.size) (hf : blkFree w g = true) : blkFree w' g = true := (blkFree_keep (Below.block hb g hl)).trans hf
def lenV : Value → Nat | .slice _ n _ => n | _ => 0
theorem Arr.of8 {w : World} {g : Nat} {x : W8} (h : get? W8 w ⟨g, 0, none⟩ = some x) (hf : blkFree w g = true) : Arr w g x.l := ⟨get?_iff.1 h, hf⟩
theorem Arr.to8 {w : World} {g : Nat} {x : W8} (h : Arr w g x.l) : get? W8 w ⟨g, 0, none⟩ = some x := get?_iff.2 h.at_
theorem free_put {w : World} {g : Nat} (hf : blkFree w g = true) (cs : List Value) : blkFree (World.putCells w ⟨g, 0, none⟩ cs) g = true := by
  unfold World.putCells
  have : ∀ (vs : List Value) (i : Nat) (w : World), blkFree w g = true → blkFree (World.putFrom w ⟨g, 0, none⟩ i vs) g = true := by
    intro vs
    induction vs with
    | nil => intro i w h; exact h
    | cons v vs ih => intro i w h; exact ih _ _ (by rw [blkFree_setCell]; exact h)
  exact this cs 0 w hf
theorem Arr.put8 {w : World} {g : Nat} {x y : W8} (h : get? W8 w ⟨g, 0, none⟩ = some x) (hf : blkFree w g = true) : Arr (World.putCells w ⟨g, 0, none⟩ y.enc) g y.l := Arr.of8 (get?_putV y h) (free_put hf _)
/-- A new block of 8 words, filled. -/
theorem new8 (w : World) (x : W8) : ∃ w', World.putCells (w.alloc (.cells (W8.enc default).toArray 252)) ⟨w.heap.size, 0, none⟩ (W8.enc x) = w' ∧ Bel w w' ∧ Arr w' w.heap.size x.l ∧ w'.heap.size = w.heap.size + 1 :=
  ⟨_, putCells_top (α := W8) x default rfl, (Bel.refl w).alloc _, Arr.new w x.l _, by simp⟩
theorem new64 (w : World) (x : W64) : ∃ w', World.putCells (w.alloc (.cells (W64.enc default).toArray 250)) ⟨w.heap.size, 0, none⟩ (W64.enc x) = w' ∧ Bel w w' ∧ Arr w' w.heap.size x.l ∧ w'.heap.size = w.heap.size + 1 :=
  ⟨_, putCells_top (α := W64) x default rfl, (Bel.refl w).alloc _, Arr.new w x.l _, by simp⟩
set_option maxRecDepth 100000 in
set_option maxHeartbeats 16000000 in
theorem sumD_any (A : Option Addr) (n c : Nat) (xs : List U8) (w : World) (hx : Sl U8 w w.heap.size A n xs) (hn : n ≤ 1000000) :
    Calls Tryz.prog 66 #[.slice A n c] w fun e w' => e = .returned (sumL xs).val ∧ Bel w w' := by
  have HX := Lib.hid hx; have HL := Lib.hid (show xs.length = n from hx.1)
  clear hx
  go_enter Tryz.func66, Tryz.ntmps66
  go_wp2_with fail
  obtain ⟨g2, hg2⟩ : ∃ g2, w.heap.size = g2 := ⟨_, rfl⟩
  have hO := get?_new (w := w) 35 (default : GHash)
  have hbO := (Bel.refl w).alloc (.cells (GHash.enc default).toArray 35)
  have hsO : (w.alloc (.cells (GHash.enc default).toArray 35)).heap.size = g2 + 1 := by simp [hg2]
  change get? GHash (w.alloc (.cells (GHash.enc default).toArray 35)) _ = _ at hO
  have hfO : blkFree (w.alloc (.cells (GHash.enc default).toArray 35)) w.heap.size = true := blkFree_new _ _ rfl
  rw [hg2] at hO hfO ⊢
  generalize w.alloc (.cells (GHash.enc default).toArray 35) = w1 at hO hbO hsO hfO ⊢
  refine (rounds_any w1).mono ?_
  rintro _ w2 ⟨rfl, hb2⟩
  have HO := Lib.hid (GB.get hb2 hO)
  have HFO0 := Lib.hid ((blkFree_keep (Below.block hb2 g2 (get?_lt hO))).trans hfO)
  have HB := Lib.hid (hbO.trans hb2)
  have HS := Lib.hid (show g2 < w2.heap.size by have := Below.size hb2; omega)
  clear hO hbO hsO hb2 hfO
  obtain ⟨g3, hg3⟩ : ∃ g3, w2.heap.size = g3 := ⟨_, rfl⟩
  have k1 := get?_new (w := w2) 250 (default : W64)
  have b1 : blkFree (w2.alloc (.cells (W64.enc default).toArray 250)) w2.heap.size = true := blkFree_new _ _ rfl
  have hb1 := (Bel.refl w2).alloc (.cells (W64.enc default).toArray 250)
  change get? W64 (w2.alloc (.cells (W64.enc default).toArray 250)) _ = _ at k1
  rw [hg3] at k1 b1
  go_upto_region 2 with (rw [hg3]; fail)
  obtain ⟨w3, e3, hb3, ha3, hs3⟩ := new64 w2 K256
  rw [hg3] at e3 ha3 hs3
  rw [e3]
  have HK := Lib.hid ha3; have HB3 := Lib.hid (HB.out.trans hb3); have HO3 := Lib.hid (GB.get hb3 HO.out); have HFO3 := Lib.hid (gb_free hb3 (get?_lt HO.out) HFO0.out); have HS3 := Lib.hid hs3; have HG3 := Lib.hid hg3
  clear k1 b1 hb1 e3 hb3 ha3 hs3 hg3 HO
  obtain ⟨g4, hg4⟩ : ∃ g4, w3.heap.size = g4 := ⟨_, rfl⟩
  have k1 := get?_new (w := w3) 252 (default : W8)
  have b1 : blkFree (w3.alloc (.cells (W8.enc default).toArray 252)) w3.heap.size = true := blkFree_new _ _ rfl
  change get? W8 (w3.alloc (.cells (W8.enc default).toArray 252)) _ = _ at k1
  rw [hg4] at k1 b1
  go_upto_region 3 with (rw [hg4]; fail)
  obtain ⟨w4, e4, hb4, ha4, hs4⟩ := new8 w3 ⟨[1779033703, 3144134277, 1013904242, 2773480762, 1359893119, 2600822924, 528734635, 1541459225], rfl⟩
  rw [hg4] at e4 ha4 hs4
  rw [e4]
  have HB4 := Lib.hid (HB3.out.trans hb4); have HK4 := Lib.hid (HK.out.step (by show 0 < 64; omega) hb4); have HH4 := Lib.hid ha4; have HO4 := Lib.hid (GB.get hb4 HO3.out); have HFO4 := Lib.hid (gb_free hb4 (get?_lt HO3.out) HFO3.out)
  have HS4 := Lib.hid (show w.heap.size ≤ g2 ∧ g2 < g3 ∧ g3 < g4 ∧ w4.heap.size = g4 + 1 from ⟨by have := hg2; omega, by have := HS.out; have := HG3.out; omega, by have := HS3.out; omega, hs4⟩)
  clear k1 b1 e4 hb4 ha4 hs4 hg4 HB3 HK HO3 HS3 HG3 HB HS hg2
  obtain ⟨v5, w5, hrun5, hb5⟩ := (Bs.nil w4).app c (HX.out.stepB HB4.out) (by simp; omega)
  obtain ⟨v6, w6, hrun6, hb6⟩ := (hb5.step ((Bel.refl w5).alloc (.cells #[.int .u8 (128 : Nat)] 5))).app 1 (sl_byte w5 128 (by omega)) (by have := HL.out; simp; omega)
  rw [show ((128 : Nat) : Int) = 128 from rfl] at hrun6
  have HB6 := Lib.hid (show Bs w4 w6 v6 (xs ++ [⟨128⟩]) from hb6)
  clear hb5 hb6
  go_wp2_with fail
  go_loopw [5] (fun mv wr => ∃ k : Nat, k ≤ padL n ∧ Hid (Bs w4 wr mv (xs ++ [⟨128⟩] ++ List.replicate k ⟨0⟩))) (fun mv _ => padL n + n + 2 - (lenV mv))
  case atStart => exact ⟨0, by omega, by simpa using HB6⟩
  case round =>
    obtain ⟨k, hk, hb⟩ := hrel
    obtain ⟨A1, m1, c1, rfl, hm1, hs1⟩ := hb.out.slV
    have hmm : m1 = n + 1 + k := by rw [← hm1, ← HL.out]; simp only [List.length_append, List.length_cons, List.length_nil, List.length_replicate]
    subst hmm
    by_cases hc : ((n : Int) + 1 + (k : Int)) % 64 = 56
    · have hkp : k = padL n := by unfold padL at hk ⊢; omega
      subst hkp
      have HB5 := Lib.hid (show Bs w4 wr (.slice A1 (n + 1 + padL n) c1) (padded xs) by have := hb.out; unfold padded; rw [HL.out]; exact this)
      clear hb hs1 hm1
      go_wp2_with fail
      go_loopw [5, 7] (fun mv iv ws => ∃ j : Nat, j ≤ 8 ∧ iv = .int .i64 (7 - (j : Int)) ∧ Hid (Bs w4 ws mv (padded xs ++ (lenL n).take j))) (fun _ iv _ => (intOf iv + 1).toNat)
      case atStart => exact ⟨0, by omega, rfl, by simpa using HB5⟩
      case round =>
        obtain ⟨j, hj, rfl, hb⟩ := hrel
        by_cases hlt : j < 8
        · obtain ⟨v7, w7, hrun7, hb7⟩ := (hb.out.step ((Bel.refl wr).alloc (.cells #[.int .u8 ((n * 8 / 2 ^ (8 * (7 - j)) % 256 : Nat) : Int)] 5))).app 1 (sl_byte wr _ (by omega)) (by have := HL.out; have := full_len xs; have := lenL_len n; simp only [List.length_append, List.length_take] at *; unfold padded; simp only [List.length_append, List.length_cons, List.length_nil, List.length_replicate]; unfold padL; omega)
          rw [show (((n * 8 / 2 ^ (8 * (7 - j)) % 256 : Nat)) : Int) = (n : Int) * 8 / 2 ^ (8 * (7 - j)) % 256 by push_cast; rfl] at hrun7
          have HB7 := Lib.hid (show Bs w4 w7 v7 (padded xs ++ (lenL n).take (j + 1)) by rw [lenL_take n hlt, ← List.append_assoc]; exact hb7)
          clear hb hb7
          go_wp2_with fail
          exact ⟨⟨j + 1, by omega, by go_num, HB7⟩, by simp only [intOf]; omega⟩
        · obtain rfl : j = 8 := by omega
          have hb2 := hb.out
          rw [List.take_of_length_le (Nat.le_of_eq (lenL_len n))] at hb2
          obtain ⟨A2, c2, rfl, hs2, hcc, hmx, hpl⟩ := hb2.own.shape
          have hm2 : (padded xs ++ lenL n).length = 64 * nblk n := by rw [← HL.out, full_len, HL.out]
          have hnb : 1 ≤ nblk n ∧ nblk n ≤ 20000 := by unfold nblk padL; omega
          rw [hm2] at hb2 hs2 hcc ⊢
          obtain ⟨ad2, rfl, hblt, _⟩ := hs2.2 (by omega)
          obtain ⟨hlow, had, _⟩ := hpl ad2 rfl
          obtain ⟨b2, hb2b⟩ : ∃ b2, ad2.block = b2 := ⟨_, rfl⟩
          rw [hb2b] at had hblt hlow
          subst had
          clear hb2b hpl hm2
          have hmx2 : c2 ≤ 9223372036854775807 := by unfold maxLen at hmx; omega
          clear hmx
          have HB7 := Lib.hid hb2; have HSM := Lib.hid hs2; have HLOW := Lib.hid (And.intro hlow hblt)
          have HC2 := Lib.hid hcc; have HC3 := Lib.hid hmx2; have HN := Lib.hid hnb
          clear hb hb2 hs2 hcc hmx2 hnb hlow hblt
          go_wp2_with fail
          obtain ⟨wL, hwL⟩ : ∃ wL, wr = wL := ⟨_, rfl⟩
          have HHL := Lib.hid (HH4.out.step (by show 0 < 8; omega) HB7.out.bel)
          rw [hwL] at HHL HB7 HSM HLOW ⊢
          have hgL : g4 < wL.heap.size := by have := Below.size HB7.out.bel; have := HS4.out; omega
          have HGL := Lib.hid hgL
          clear hgL hwL
          have HBL := Lib.hid (show ∀ wx, Chg (fun q => q = g4 ∨ wL.heap.size ≤ q) wL wx → Bel w wx from fun wx hc => Chg.bel2 (HB4.out.trans HB7.out.bel) hc (fun q e => by have h1 := HS4.out; have h2 := Below.size (HB4.out.trans HB7.out.bel); rcases e with e | e <;> omega))
          go_loopw [8] (fun iv wr => ∃ (k : Nat) (hs : W8), Hid (hs = blkN (padded xs ++ lenL n) k) ∧ k ≤ nblk n ∧ iv = .int .i64 (64 * (k : Int)) ∧ Hid (Chg (fun q => q = g4 ∨ wL.heap.size ≤ q) wL wr ∧ Arr wr g4 hs.l)) (fun iv _ => 64 * nblk n - (intOf iv).toNat)
          case atStart => exact ⟨0, H256, Lib.hid rfl, by omega, rfl, Lib.hid ⟨Chg.refl _ _, HHL.out⟩⟩
          case round =>
            obtain ⟨k, hs, HHS, hk, rfl, hb⟩ := hrel
            by_cases hlt : k < nblk n
            · --BEGIN B
              go_wp2_with fail
              obtain ⟨g9, hg9⟩ : ∃ g9, wr.heap.size = g9 := ⟨_, rfl⟩
              have ha9 : Arr (wr.alloc (.cells (W64.enc default).toArray 250)) g9 (List.replicate 64 0) := by rw [← hg9]; exact Arr.new wr _ _
              have HQ := Lib.hid (show Bel w (wr.alloc (.cells (W64.enc default).toArray 250)) ∧ Sl U8 (wr.alloc (.cells (W64.enc default).toArray 250)) (wr.alloc (.cells (W64.enc default).toArray 250)).heap.size (some ⟨b2, 0, none⟩) (64 * nblk n) (padded xs ++ lenL n) from ⟨(HBL.out _ hb.out.1).trans ((Bel.refl wr).alloc _), (Sl.chg hb.out.1 HSM.out (fun _ ad e hS => by
                injection e with e; subst e
                have h1 := HLOW.out; have h2 := HS4.out
                rcases hS with hS | hS
                · have hS : b2 = g4 := hS
                  omega
                · have hS : wL.heap.size ≤ b2 := hS
                  omega)).stepB ((Bel.refl wr).alloc _)⟩)
              have H9 := Lib.hid (show Chg (fun q => q = g4 ∨ wL.heap.size ≤ q) wL (wr.alloc (.cells (W64.enc default).toArray 250)) ∧ Arr (wr.alloc (.cells (W64.enc default).toArray 250)) g4 hs.l from ⟨hb.out.1.tr (Chg.of_bel ((Bel.refl wr).alloc _) _), hb.out.2.step (by rw [hs.h]; omega) ((Bel.refl wr).alloc _)⟩)
              have HG9 := Lib.hid (show g4 < g9 ∧ wL.heap.size ≤ g9 from ⟨by have := hb.out.1.size; have := HGL.out; omega, by have := hb.out.1.size; omega⟩)
              rw [hg9]
              generalize wr.alloc (.cells (W64.enc default).toArray 250) = wq at ha9 HQ H9 ⊢
              clear hb
              have H9a := Lib.hid ha9
              have HG3 := Lib.hid (show g3 < g4 from HS4.out.2.2.1)
              clear ha9
              go_loopw [10] (fun iv wr => ∃ i : Nat, i ≤ 16 ∧ iv = .int .i64 i ∧ Hid (Chg (fun q => q = g9) wq wr ∧ Arr wr g9 (fillB (padded xs ++ lenL n) (64 * k) i))) (fun iv _ => 16 - (intOf iv).toNat)
              case atStart => exact ⟨0, by omega, rfl, Lib.hid ⟨Chg.refl _ _, H9a.out⟩⟩
              case round =>
                obtain ⟨i, hi, rfl, hb⟩ := hrel
                by_cases hlt2 : i < 16
                · --BEGIN F
                  as_aux_lemma =>
                  have hc2 := HC2.out; have hc3 := HC3.out; have hnn := HN.out
                  obtain ⟨P, hP⟩ : ∃ P, 64 * k + 4 * i = P := ⟨_, rfl⟩
                  have hPn : P + 4 ≤ 64 * nblk n := by omega
                  go_wp2_with fail
                  rw [hP]
                  obtain ⟨D, hD⟩ : ∃ D, 64 * nblk n - P = D := ⟨_, rfl⟩
                  rw [hD]
                  have d0 : 0 < D := by omega
                  have d1 : (1 : Int) < (D : Int) := by omega
                  have d2 : (2 : Int) < (D : Int) := by omega
                  have hi64 : (i : Int) < 64 := by omega
                  have d3 : (3 : Int) < (D : Int) := by omega
                  have hsM := Sl.chg hb.out.1 HQ.out.2 (fun _ ad e hS => by
                    injection e with e; subst e
                    have hS : b2 = g9 := hS
                    have h1 := HLOW.out; have h2 := HG9.out
                    omega)
                  have t0 := byte_cell hsM (j := P) (by omega)
                  have t1 := byte_cell hsM (j := P + 1) (by omega)
                  have t2 := byte_cell hsM (j := P + 2) (by omega)
                  have t3 := byte_cell hsM (j := P + 3) (by omega)
                  obtain ⟨e0, he0⟩ : ∃ e0, byteN (padded xs ++ lenL n) P = e0 := ⟨_, rfl⟩
                  obtain ⟨e1, he1⟩ : ∃ e1, byteN (padded xs ++ lenL n) (P + 1) = e1 := ⟨_, rfl⟩
                  obtain ⟨e2, he2⟩ : ∃ e2, byteN (padded xs ++ lenL n) (P + 2) = e2 := ⟨_, rfl⟩
                  obtain ⟨e3, he3⟩ : ∃ e3, byteN (padded xs ++ lenL n) (P + 3) = e3 := ⟨_, rfl⟩
                  have r0 := byteN_range (padded xs ++ lenL n) P; have r1 := byteN_range (padded xs ++ lenL n) (P + 1); have r2 := byteN_range (padded xs ++ lenL n) (P + 2); have r3 := byteN_range (padded xs ++ lenL n) (P + 3)
                  rw [he0] at t0 r0; rw [he1] at t1 r1; rw [he2] at t2 r2; rw [he3] at t3 r3
                  have u0 : IntKind.u32.wrap e0 = e0 := IntWalk.u32_in _ (by omega)
                  have u1 : IntKind.u32.wrap e1 = e1 := IntWalk.u32_in _ (by omega)
                  have u2 : IntKind.u32.wrap e2 = e2 := IntWalk.u32_in _ (by omega)
                  have u3 : IntKind.u32.wrap e3 = e3 := IntWalk.u32_in _ (by omega)
                  have m0 : IntKind.u32.wrap (e0 * 16777216) = e0 * 16777216 := IntWalk.u32_in _ (by omega)
                  have m1 : IntKind.u32.wrap (e1 * 65536) = e1 * 65536 := IntWalk.u32_in _ (by omega)
                  have m2 : IntKind.u32.wrap (e2 * 256) = e2 * 256 := IntWalk.u32_in _ (by omega)
                  have HE := Lib.hid (And.intro he0 (And.intro he1 (And.intro he2 he3)))
                  clear hsM he0 he1 he2 he3 r0 r1 r2 r3
                  refine wp_region_G GB [24] GB.rf (by kernel_rfl) ?_
                  refine wpG_looks 1 24 [0,1,2,3,4,5,6,7,8,9,10,11,12,13,14,15,16,17,18,19,20,21,22,23] rfl GB.rf GB.tr (by kernel_rfl) (fun _ _ _ _ hd h => And.intro (hd ▸ And.left h) (And.right h)) rfl (by kernel_rfl) ?_
                  intro ι W9 hne CW
                  have y0 := fun z => GB.cell (CW.out z) t0
                  have y1 := fun z => GB.cell (CW.out z) t1
                  have y2 := fun z => GB.cell (CW.out z) t2
                  have y3 := fun z => GB.cell (CW.out z) t3
                  repeat (refine wpLooksG_step (fun K hK => ?_); go_simp; refine hK _ ?_; clear hK K)
                  refine wpLooksG_nil ?_
                  clear y0 y1 y2 y3 CW hne W9 ι
                  refine wpG_force 24 _ rfl (by kernel_rfl) rfl fun wa hwa K hK => ?_
                  have haw := hb.out.2.step (by rw [fillB_len]; omega) (GB.undrew hwa)
                  have hcw := haw.get (i := i) (by rw [fillB_len]; omega)
                  have hfw := haw.frozen i
                  go_simp
                  refine hK _ _ (fun h => absurd (by simp) h) ?_
                  clear hK K hcw hfw
                  refine wpG_end (by kernel_rfl) (fun wn hwn => ?_) _
                  have hst := (haw.set (i := i) (by rw [fillB_len]; omega) _).step (by rw [List.length_set, fillB_len]; omega) hwn
                  have hcst := (hb.out.1.tr (Chg.of_bel (GB.undrew hwa) _)).tr ((chg_cell (S := fun q => q = g9) (w := wa) (b := g9) (o := i) rfl _).tr (Chg.of_bel hwn _))
                  have hwd : wordB (padded xs ++ lenL n) (64 * k + 4 * i) = bits .or .u32 (bits .or .u32 (bits .or .u32 (e0 * 16777216) (e1 * 65536)) (e2 * 256)) e3 := by
                    obtain ⟨q0, q1, q2, q3⟩ := HE.out
                    unfold wordB
                    rw [hP, q0, q1, q2, q3]
                  rw [← hwd] at hst
                  have HB' := Lib.hid (show Chg (fun q => q = g9) wq wn ∧ Arr wn g9 (fillB (padded xs ++ lenL n) (64 * k) (i + 1)) from ⟨hcst, hst⟩)
                  clear hst hcst hwd
                  clear haw hwn hwa
                  go_wp2_with fail
                  exact ⟨⟨i + 1, by omega, by go_num, HB'⟩, by simp only [intOf]; omega⟩
                  --END F
                · obtain rfl : i = 16 := by omega
                  rw [show ((16 : Nat) : Int) = 16 from rfl]
                  obtain ⟨hcb, hab⟩ := hb.out
                  have HB' := Lib.hid (show Chg (fun q => q = g9) wq wr ∧ Arr wr g9 (fillB (padded xs ++ lenL n) (64 * k) 16) from ⟨hcb, hab⟩)
                  clear hb hcb hab
                  go_wp2_with fail
                  go_loopw [12] (fun iv wr => ∃ j : Nat, j ≤ 48 ∧ iv = .int .i64 ((j : Int) + 16) ∧ Hid (Chg (fun q => q = g9) wq wr ∧ Arr wr g9 (extN (fillB (padded xs ++ lenL n) (64 * k) 16) j))) (fun iv _ => 64 - (intOf iv).toNat)
                  case atStart => exact ⟨0, by omega, rfl, HB'⟩
                  case round =>
                    clear HB'
                    obtain ⟨j, hj, rfl, hb⟩ := hrel
                    by_cases hlt3 : j < 48
                    ·
                      --BEGIN E
                      as_aux_lemma =>
                      have hl : (extN (fillB (padded xs ++ lenL n) (64 * k) 16) j).length = 64 := by rw [extN_len, fillB_len]
                      obtain ⟨ys, hys⟩ : ∃ ys, extN (fillB (padded xs ++ lenL n) (64 * k) 16) j = ys := ⟨_, rfl⟩
                      rw [hys] at hl
                      have hb0 := hb.out
                      rw [hys] at hb0
                      have c16 := hb0.2.get (i := j) (by omega)
                      have c15 := hb0.2.get (i := j + 1) (by omega)
                      have c7 := hb0.2.get (i := j + 9) (by omega)
                      have c2' := hb0.2.get (i := j + 14) (by omega)
                      obtain ⟨e16, he16⟩ : ∃ e, ys.getD j 0 = e := ⟨_, rfl⟩
                      obtain ⟨e15, he15⟩ : ∃ e, ys.getD (j + 1) 0 = e := ⟨_, rfl⟩
                      obtain ⟨e7, he7⟩ : ∃ e, ys.getD (j + 9) 0 = e := ⟨_, rfl⟩
                      obtain ⟨e2, he2⟩ : ∃ e, ys.getD (j + 14) 0 = e := ⟨_, rfl⟩
                      rw [he16] at c16; rw [he15] at c15; rw [he7] at c7; rw [he2] at c2'
                      have HE := Lib.hid (show _ ∧ _ ∧ _ ∧ _ ∧ _ from ⟨hys, he16, he15, he7, he2⟩)
                      have HA := Lib.hid hb0.1; have HA2 := Lib.hid hb0.2
                      clear hb hb0 hys he16 he15 he7 he2
                      have hlt4 : (j : Int) + 16 < 64 := by omega
                      have z15 : IntKind.i64.wrap ((j : Int) + 16 - 15) = (j : Int) + 1 := by rw [IntWalk.i64_in _ (by omega)]; omega
                      have z2 : IntKind.i64.wrap ((j : Int) + 16 - 2) = (j : Int) + 14 := by rw [IntWalk.i64_in _ (by omega)]; omega
                      have z16 : IntKind.i64.wrap ((j : Int) + 16 - 16) = (j : Int) := by rw [IntWalk.i64_in _ (by omega)]; omega
                      have z0 : IntKind.i64.wrap (j : Int) = (j : Int) := by rw [IntWalk.i64_in _ (by omega)]
                      have z7 : IntKind.i64.wrap ((j : Int) + 16 - 7) = (j : Int) + 9 := by rw [IntWalk.i64_in _ (by omega)]; omega
                      have l15 : (j : Int) + 1 < 64 := by omega
                      have l2 : (j : Int) + 14 < 64 := by omega
                      have l16 : (j : Int) < 64 := by omega
                      have l7 : (j : Int) + 9 < 64 := by omega
                      have n14 : ((j : Int) + 14).toNat = j + 14 := by omega
                      have n9 : ((j : Int) + 9).toNat = j + 9 := by omega
                      have n16 : ((j : Int) + 16).toNat = j + 16 := by omega
                      have v16 : (0 : Int) ≤ (j : Int) + 16 := by omega
                      have v15 : (0 : Int) ≤ (j : Int) + 1 := by omega
                      have v2 : (0 : Int) ≤ (j : Int) + 14 := by omega
                      have v7 : (0 : Int) ≤ (j : Int) + 9 := by omega
                      go_wp2_with fail
                      refine wp_region_G GB [] GB.rf (by kernel_rfl) ?_
                      refine wpG_looks 0 24 [0,1,2,3,8,4,5,6,7,9] rfl GB.rf GB.tr (by kernel_rfl) (fun _ _ _ _ hd h => And.intro (hd ▸ And.left h) (And.right h)) rfl (by kernel_rfl) ?_
                      intro ι W9 hne CW
                      have y15 := fun z => GB.cell (CW.out z) c15
                      have y2 := fun z => GB.cell (CW.out z) c2'
                      repeat (refine wpLooksG_step (fun K hK => ?_); go_simp; refine hK _ ?_; clear hK K)
                      refine wpLooksG_nil ?_
                      clear y15 y2 CW hne W9 ι
                      refine wpG_end (by kernel_rfl) (fun wm hwm => ?_) _
                      have hwm2 : Bel wr wm := GB.undrew hwm
                      have HA3 := Lib.hid (HA.out.tr (Chg.of_bel hwm2 _)); have HA4 := Lib.hid (HA2.out.step (by rw [hl]; omega) hwm2)
                      have c16 := GB.cell hwm2 c16; have c7 := GB.cell hwm2 c7
                      clear c15 c2' hwm hwm2 HA HA2
                      go_wp2_with fail
                      refine wp_region_G GB [29] GB.rf (by kernel_rfl) ?_
                      refine wpG_looks 1 24 [0,1,2,3,4,5,6,7,8,9,10,11,12,13,14,15,16,17,18,19,20,21,22,23,24,25,26,27,28] rfl GB.rf GB.tr (by kernel_rfl) (fun _ _ _ _ hd h => And.intro (hd ▸ And.left h) (And.right h)) rfl (by kernel_rfl) ?_
                      intro ι W9 hne CW
                      have y16 := fun z => GB.cell (CW.out z) c16
                      have y7 := fun z => GB.cell (CW.out z) c7
                      repeat (refine wpLooksG_step (fun K hK => ?_); go_simp; refine hK _ ?_; clear hK K)
                      refine wpLooksG_step (fun K hK => ?_)
                      go_simp
                      refine ⟨_, fun z => (turn_any _ 7 7 rfl _ (by omega)).mono (fun e w' h => ⟨h.1, h.2 ▸ GB.rf _⟩), hK _ ?_⟩
                      clear hK K
                      repeat (refine wpLooksG_step (fun K hK => ?_); go_simp; refine hK _ ?_; clear hK K)
                      refine wpLooksG_step (fun K hK => ?_)
                      go_simp
                      refine ⟨_, fun z => (turn_any _ 18 18 rfl _ (by omega)).mono (fun e w' h => ⟨h.1, h.2 ▸ GB.rf _⟩), hK _ ?_⟩
                      clear hK K
                      repeat (refine wpLooksG_step (fun K hK => ?_); go_simp; refine hK _ ?_; clear hK K)
                      refine wpLooksG_step (fun K hK => ?_)
                      go_simp
                      refine ⟨_, fun z => (turn_any _ 17 17 rfl _ (by omega)).mono (fun e w' h => ⟨h.1, h.2 ▸ GB.rf _⟩), hK _ ?_⟩
                      clear hK K
                      repeat (refine wpLooksG_step (fun K hK => ?_); go_simp; refine hK _ ?_; clear hK K)
                      refine wpLooksG_step (fun K hK => ?_)
                      go_simp
                      refine ⟨_, fun z => (turn_any _ 19 19 rfl _ (by omega)).mono (fun e w' h => ⟨h.1, h.2 ▸ GB.rf _⟩), hK _ ?_⟩
                      clear hK K
                      repeat (refine wpLooksG_step (fun K hK => ?_); go_simp; refine hK _ ?_; clear hK K)
                      refine wpLooksG_nil ?_
                      clear y16 y7 CW hne W9 ι
                      refine wpG_force 29 _ rfl (by kernel_rfl) rfl fun wa hwa K hK => ?_
                      have haw := HA4.out.step (by omega) (GB.undrew hwa)
                      have hcw := haw.get (i := j + 16) (by omega)
                      have hfw := haw.frozen (j + 16)
                      go_simp
                      refine hK _ _ (fun h => absurd (by simp) h) ?_
                      clear hK K hcw hfw
                      refine wpG_end (by kernel_rfl) (fun wn hwn => ?_) _
                      have hst := (haw.set (i := j + 16) (by omega) _).step (by rw [List.length_set]; omega) hwn
                      have hcst := (HA3.out.tr (Chg.of_bel (GB.undrew hwa) _)).tr ((chg_cell (S := fun q => q = g9) (w := wa) (b := g9) (o := j + 16) rfl _).tr (Chg.of_bel hwn _))
                      have hwd : extB ys (j + 16) = ys.set (j + 16) (IntKind.u32.wrap (IntKind.u32.wrap (IntKind.u32.wrap (e16 + bits .xor .u32 (bits .xor .u32 (rotr 7 e15) (rotr 18 e15)) (e15 / 8)) + e7) + bits .xor .u32 (bits .xor .u32 (rotr 17 e2) (rotr 19 e2)) (e2 / 1024))) := by
                        obtain ⟨_, q0, q1, q2, q3⟩ := HE.out
                        unfold extB sig0 sig1
                        rw [show j + 16 - 16 = j by omega, show j + 16 - 15 = j + 1 by omega, show j + 16 - 7 = j + 9 by omega, show j + 16 - 2 = j + 14 by omega, q0, q1, q2, q3]
                      rw [← hwd, ← HE.out.1] at hst
                      have HB' := Lib.hid (show Chg (fun q => q = g9) wq wn ∧ Arr wn g9 (extN (fillB (padded xs ++ lenL n) (64 * k) 16) (j + 1)) from ⟨hcst, hst⟩)
                      clear hst hcst hwd haw hwn hwa
                      go_wp2_with fail
                      exact ⟨⟨j + 1, by omega, by go_num, HB'⟩, by simp only [intOf]; omega⟩
                      --END E
                    · obtain rfl : j = 48 := by omega
                      rw [show ((48 : Nat) : Int) + 16 = 64 from rfl]
                      obtain ⟨hcb, hab⟩ := hb.out
                      obtain ⟨ws, hws⟩ : ∃ ws, extN (fillB (padded xs ++ lenL n) (64 * k) 16) 48 = ws := ⟨_, rfl⟩
                      have hwl : ws.length = 64 := by rw [← hws, extN_len, fillB_len]
                      rw [hws] at hab
                      have HWS := Lib.hid hws; have HWL := Lib.hid hwl
                      have h9 := H9.out
                      have hne9 : ¬ g4 = g9 := by have := HG9.out; omega
                      have H9b := Lib.hid (show Chg (fun q => q = g4 ∨ wL.heap.size ≤ q) wL wr ∧ Arr wr g4 hs.l from ⟨h9.1.tr (hcb.sub (fun q e => .inr (by have := HG9.out; omega))), h9.2.chg (by rw [hs.h]; omega) hcb hne9⟩)
                      have hk4 := Arr.to8 H9b.out.2
                      have HQb := Lib.hid (show Bel w wr ∧ Arr wr g3 K256.l from ⟨HBL.out _ H9b.out.1, (HK4.out.step (by show 0 < 64; omega) HB7.out.bel).chg (by show 0 < 64; omega) H9b.out.1 (fun e => by have h1 := HS4.out; have h2 := HGL.out; rcases e with e | e <;> omega)⟩)
                      have HWA := Lib.hid hab
                      clear hb hcb hab h9 hws hwl hne9
                      obtain ⟨wv, ev, hbv, hav, hsv⟩ := new8 wr hs
                      obtain ⟨g15, hg15⟩ : ∃ g, wr.heap.size = g := ⟨_, rfl⟩
                      have k15 := get?_new (w := wr) 252 (default : W8)
                      have b15 : blkFree (wr.alloc (.cells (W8.enc default).toArray 252)) wr.heap.size = true := blkFree_new _ _ rfl
                      change get? W8 (wr.alloc (.cells (W8.enc default).toArray 252)) _ = _ at k15
                      rw [hg15] at ev hav hsv k15 b15
                      go_upto_region 26 with (rw [hg15]; fail)
                      have H9c := Lib.hid (show Chg (fun q => q = g4 ∨ wL.heap.size ≤ q) wL wv ∧ Arr wv g4 hs.l from ⟨H9b.out.1.tr (Chg.of_bel hbv _), H9b.out.2.step (by rw [hs.h]; omega) hbv⟩)
                      have HQc := Lib.hid (show Bel w wv ∧ Arr wv g3 K256.l from ⟨HQb.out.1.trans hbv, HQb.out.2.step (by show 0 < 64; omega) hbv⟩)
                      have HWAc := Lib.hid (HWA.out.step (by have := HWL.out; omega) hbv)
                      have HVc := Lib.hid (show Arr wv g15 hs.l ∧ g9 < g15 ∧ wv.heap.size = g15 + 1 from ⟨hav, by have := HWA.out.lt (by have := HWL.out; omega); omega, hsv⟩)
                      clear k15 b15 ev hbv hav hsv hk4 H9b HQb HWA hg15
                      go_wp2_with fail
                      go_loopw [16] (fun iv wr => ∃ i : Nat, i ≤ 64 ∧ iv = .int .i64 i ∧ Hid (Chg (fun q => q = g15) wv wr ∧ Arr wr g15 (rndN ws hs i).l)) (fun iv _ => 64 - (intOf iv).toNat)
                      case atStart => exact ⟨0, by omega, rfl, Lib.hid ⟨Chg.refl _ _, HVc.out.1⟩⟩
                      case round =>
                        obtain ⟨i, hi, rfl, hb⟩ := hrel
                        by_cases hlt4 : i < 64
                        · --BEGIN R
                          as_aux_lemma =>
                          obtain ⟨v, hv⟩ : ∃ v, rndN ws hs i = v := ⟨_, rfl⟩
                          rw [hv] at hb
                          have hba := hb.out.2
                          have hbc := hb.out.1
                          have hkk := (HQc.out.2.chg (by show 0 < 64; omega) hbc (by have h1 := HVc.out.2.1; have h2 := HG3.out; have h3 := HG9.out.1; omega)).get (i := i) (by show i < 64; omega)
                          have hww := (HWAc.out.chg (by have := HWL.out; omega) hbc (by have h1 := HVc.out.2.1; omega)).get (i := i) (by have := HWL.out; omega)
                          obtain ⟨kk, hkkE⟩ : ∃ e, K256.l.getD i 0 = e := ⟨_, rfl⟩
                          obtain ⟨ww, hwwE⟩ : ∃ e, ws.getD i 0 = e := ⟨_, rfl⟩
                          rw [hkkE] at hkk; rw [hwwE] at hww
                          have c0 := hba.get (i := 0) (by rw [v.h]; omega)
                          obtain ⟨e0, he0⟩ : ∃ e, v.l.getD 0 0 = e := ⟨_, rfl⟩
                          rw [he0] at c0
                          have c1 := hba.get (i := 1) (by rw [v.h]; omega)
                          obtain ⟨e1, he1⟩ : ∃ e, v.l.getD 1 0 = e := ⟨_, rfl⟩
                          rw [he1] at c1
                          have c2 := hba.get (i := 2) (by rw [v.h]; omega)
                          obtain ⟨e2, he2⟩ : ∃ e, v.l.getD 2 0 = e := ⟨_, rfl⟩
                          rw [he2] at c2
                          have c3 := hba.get (i := 3) (by rw [v.h]; omega)
                          obtain ⟨e3, he3⟩ : ∃ e, v.l.getD 3 0 = e := ⟨_, rfl⟩
                          rw [he3] at c3
                          have c4 := hba.get (i := 4) (by rw [v.h]; omega)
                          obtain ⟨e4, he4⟩ : ∃ e, v.l.getD 4 0 = e := ⟨_, rfl⟩
                          rw [he4] at c4
                          have c5 := hba.get (i := 5) (by rw [v.h]; omega)
                          obtain ⟨e5, he5⟩ : ∃ e, v.l.getD 5 0 = e := ⟨_, rfl⟩
                          rw [he5] at c5
                          have c6 := hba.get (i := 6) (by rw [v.h]; omega)
                          obtain ⟨e6, he6⟩ : ∃ e, v.l.getD 6 0 = e := ⟨_, rfl⟩
                          rw [he6] at c6
                          have c7 := hba.get (i := 7) (by rw [v.h]; omega)
                          obtain ⟨e7, he7⟩ : ∃ e, v.l.getD 7 0 = e := ⟨_, rfl⟩
                          rw [he7] at c7
                          have HE := Lib.hid (show _ ∧ _ ∧ _ ∧ _ ∧ _ ∧ _ ∧ _ ∧ _ ∧ _ ∧ _ ∧ _ from ⟨hv, hkkE, hwwE, he0, he1, he2, he3, he4, he5, he6, he7⟩)
                          have HA := Lib.hid hba; have HC := Lib.hid hbc
                          clear hb hba hbc hv hkkE hwwE he0 he1 he2 he3 he4 he5 he6 he7
                          have hi64 : (i : Int) < 64 := by omega
                          go_wp2_with fail
                          refine wp_region_G GB [] GB.rf (by kernel_rfl) ?_
                          refine wpG_looks 0 24 [0,1,4,2,3,5] rfl GB.rf GB.tr (by kernel_rfl) (fun _ _ _ _ hd h => And.intro (hd ▸ And.left h) (And.right h)) rfl (by kernel_rfl) ?_
                          intro ι W9 hne CW
                          have y4 := fun z => GB.cell (CW.out z) c4
                          have y0 := fun z => GB.cell (CW.out z) c0
                          repeat (refine wpLooksG_step (fun K hK => ?_); go_simp; refine hK _ ?_; clear hK K)
                          refine wpLooksG_nil ?_
                          clear y4 y0 CW hne W9 ι
                          refine wpG_end (by kernel_rfl) (fun wm hwm => ?_) _
                          have hwm2 : Bel wr wm := GB.undrew hwm
                          have HC3 := Lib.hid (HC.out.tr (Chg.of_bel hwm2 _)); have HA3 := Lib.hid (HA.out.step (by rw [v.h]; omega) hwm2)
                          have c0 := GB.cell hwm2 c0
                          have c1 := GB.cell hwm2 c1
                          have c2 := GB.cell hwm2 c2
                          have c3 := GB.cell hwm2 c3
                          have c4 := GB.cell hwm2 c4
                          have c5 := GB.cell hwm2 c5
                          have c6 := GB.cell hwm2 c6
                          have c7 := GB.cell hwm2 c7
                          have hkk := GB.cell hwm2 hkk; have hww := GB.cell hwm2 hww
                          clear hwm hwm2 HA HC
                          go_wp2_with fail
                          obtain ⟨T1, hT1⟩ : ∃ T1, T1 = tOne kk ww e4 e5 e6 e7 := ⟨_, rfl⟩
                          have HT1 := Lib.hid hT1
                          clear hT1
                          go_cut [19] (fun tv wx => tv = .int .u32 T1 ∧ Hid (Chg (fun q => q = g15) wv wx ∧ Arr wx g15 v.l))
                          case first => as_aux_lemma =>
                            refine wp_region_G GB [] GB.rf (by kernel_rfl) ?_
                            refine wpG_looks 0 24 [0,1,2,3,4,5,6,7,8,9,10,11,12,13,14,15,16,17,18,19,20,21,22,23,24,25,26,27,28,29,30] rfl GB.rf GB.tr (by kernel_rfl) (fun _ _ _ _ hd h => And.intro (hd ▸ And.left h) (And.right h)) rfl (by kernel_rfl) ?_
                            intro ι W9 hne CW
                            have y_c7 := fun z => GB.cell (CW.out z) c7
                            have y_c5 := fun z => GB.cell (CW.out z) c5
                            have y_c6 := fun z => GB.cell (CW.out z) c6
                            have y_hkk := fun z => GB.cell (CW.out z) hkk
                            have y_hww := fun z => GB.cell (CW.out z) hww
                            repeat (refine wpLooksG_step (fun K hK => ?_); go_simp; refine hK _ ?_; clear hK K)
                            refine wpLooksG_step (fun K hK => ?_)
                            go_simp
                            refine ⟨_, fun z => (turn_any _ 6 6 rfl _ (by omega)).mono (fun e w' h => ⟨h.1, h.2 ▸ GB.rf _⟩), hK _ ?_⟩
                            clear hK K
                            repeat (refine wpLooksG_step (fun K hK => ?_); go_simp; refine hK _ ?_; clear hK K)
                            refine wpLooksG_step (fun K hK => ?_)
                            go_simp
                            refine ⟨_, fun z => (turn_any _ 11 11 rfl _ (by omega)).mono (fun e w' h => ⟨h.1, h.2 ▸ GB.rf _⟩), hK _ ?_⟩
                            clear hK K
                            repeat (refine wpLooksG_step (fun K hK => ?_); go_simp; refine hK _ ?_; clear hK K)
                            refine wpLooksG_step (fun K hK => ?_)
                            go_simp
                            refine ⟨_, fun z => (turn_any _ 25 25 rfl _ (by omega)).mono (fun e w' h => ⟨h.1, h.2 ▸ GB.rf _⟩), hK _ ?_⟩
                            clear hK K
                            repeat (refine wpLooksG_step (fun K hK => ?_); go_simp; refine hK _ ?_; clear hK K)
                            refine wpLooksG_nil ?_
                            clear y_c7 y_c5 y_c6 y_hkk y_hww CW hne W9 ι
                            refine wpG_end (by kernel_rfl) (fun wn hwm => ?_) _
                            have hwm2 : Bel wm wn := GB.undrew hwm
                            have HC4 := Lib.hid (HC3.out.tr (Chg.of_bel hwm2 _)); have HA4 := Lib.hid (HA3.out.step (by rw [v.h]; omega) hwm2)
                            have c0 := GB.cell hwm2 c0
                            have c1 := GB.cell hwm2 c1
                            have c2 := GB.cell hwm2 c2
                            have c3 := GB.cell hwm2 c3
                            have c4 := GB.cell hwm2 c4
                            have c5 := GB.cell hwm2 c5
                            have c6 := GB.cell hwm2 c6
                            have c7 := GB.cell hwm2 c7
                            clear hwm hwm2 HA3 HC3
                            go_wp2_with fail
                            go_meet
                            exact ⟨by rw [HT1.out]; rfl, Lib.hid ⟨HC4.out, HA4.out⟩⟩
                          case rest => as_aux_lemma =>
                            obtain ⟨rfl, hcf⟩ := hcut
                            have HC4 := Lib.hid hcf.out.1; have HA4 := Lib.hid hcf.out.2
                            have c0 := HA4.out.get (i := 0) (by rw [v.h]; omega)
                            rw [show v.l.getD 0 0 = e0 from HE.out.2.2.2.1] at c0
                            have c1 := HA4.out.get (i := 1) (by rw [v.h]; omega)
                            rw [show v.l.getD 1 0 = e1 from HE.out.2.2.2.2.1] at c1
                            have c2 := HA4.out.get (i := 2) (by rw [v.h]; omega)
                            rw [show v.l.getD 2 0 = e2 from HE.out.2.2.2.2.2.1] at c2
                            have c3 := HA4.out.get (i := 3) (by rw [v.h]; omega)
                            rw [show v.l.getD 3 0 = e3 from HE.out.2.2.2.2.2.2.1] at c3
                            have c4 := HA4.out.get (i := 4) (by rw [v.h]; omega)
                            rw [show v.l.getD 4 0 = e4 from HE.out.2.2.2.2.2.2.2.1] at c4
                            have c5 := HA4.out.get (i := 5) (by rw [v.h]; omega)
                            rw [show v.l.getD 5 0 = e5 from HE.out.2.2.2.2.2.2.2.2.1] at c5
                            have c6 := HA4.out.get (i := 6) (by rw [v.h]; omega)
                            rw [show v.l.getD 6 0 = e6 from HE.out.2.2.2.2.2.2.2.2.2.1] at c6
                            have c7 := HA4.out.get (i := 7) (by rw [v.h]; omega)
                            rw [show v.l.getD 7 0 = e7 from HE.out.2.2.2.2.2.2.2.2.2.2] at c7
                            clear hcf
                            obtain ⟨T2, hT2⟩ : ∃ T2, T2 = tTwo e0 e1 e2 := ⟨_, rfl⟩
                            have HT2 := Lib.hid hT2
                            clear hT2
                            go_upto_region 31 with fail
                            go_cut [20] (fun tv wx => tv = .int .u32 T2 ∧ Hid (Chg (fun q => q = g15) wv wx ∧ Arr wx g15 v.l))
                            case first => as_aux_lemma =>
                              refine wp_region_G GB [] GB.rf (by kernel_rfl) ?_
                              refine wpG_looks 0 24 [0,1,2,3,4,5,6,7,8,9,10,11,12,13,14,15,16,17,18,19,20,21,22,23,24] rfl GB.rf GB.tr (by kernel_rfl) (fun _ _ _ _ hd h => And.intro (hd ▸ And.left h) (And.right h)) rfl (by kernel_rfl) ?_
                              intro ι W9 hne CW
                              have y_1 := fun z => GB.cell (CW.out z) c1
                              have y_2 := fun z => GB.cell (CW.out z) c2
                              repeat (refine wpLooksG_step (fun K hK => ?_); go_simp; refine hK _ ?_; clear hK K)
                              refine wpLooksG_step (fun K hK => ?_)
                              go_simp
                              refine ⟨_, fun z => (turn_any _ 2 2 rfl _ (by omega)).mono (fun e w' h => ⟨h.1, h.2 ▸ GB.rf _⟩), hK _ ?_⟩
                              clear hK K
                              repeat (refine wpLooksG_step (fun K hK => ?_); go_simp; refine hK _ ?_; clear hK K)
                              refine wpLooksG_step (fun K hK => ?_)
                              go_simp
                              refine ⟨_, fun z => (turn_any _ 13 13 rfl _ (by omega)).mono (fun e w' h => ⟨h.1, h.2 ▸ GB.rf _⟩), hK _ ?_⟩
                              clear hK K
                              repeat (refine wpLooksG_step (fun K hK => ?_); go_simp; refine hK _ ?_; clear hK K)
                              refine wpLooksG_step (fun K hK => ?_)
                              go_simp
                              refine ⟨_, fun z => (turn_any _ 22 22 rfl _ (by omega)).mono (fun e w' h => ⟨h.1, h.2 ▸ GB.rf _⟩), hK _ ?_⟩
                              clear hK K
                              repeat (refine wpLooksG_step (fun K hK => ?_); go_simp; refine hK _ ?_; clear hK K)
                              refine wpLooksG_nil ?_
                              clear y_1 y_2 CW hne W9 ι
                              refine wpG_end (by kernel_rfl) (fun wo hwm => ?_) _
                              have hwm2 := GB.undrew hwm
                              have HF := Lib.hid (show Chg (fun q => q = g15) wv wo ∧ Arr wo g15 v.l from ⟨HC4.out.tr (Chg.of_bel hwm2 _), HA4.out.step (by rw [v.h]; omega) hwm2⟩)
                              clear hwm hwm2
                              go_wp2_with fail
                              go_meet
                              exact ⟨by rw [HT2.out]; rfl, HF⟩
                            case rest => as_aux_lemma =>
                              obtain ⟨rfl, hcf⟩ := hcut
                              have HC5 := Lib.hid hcf.out.1; have HA5 := Lib.hid hcf.out.2
                              have c0 := HA5.out.get (i := 0) (by rw [v.h]; omega)
                              rw [show v.l.getD 0 0 = e0 from HE.out.2.2.2.1] at c0
                              have c1 := HA5.out.get (i := 1) (by rw [v.h]; omega)
                              rw [show v.l.getD 1 0 = e1 from HE.out.2.2.2.2.1] at c1
                              have c2 := HA5.out.get (i := 2) (by rw [v.h]; omega)
                              rw [show v.l.getD 2 0 = e2 from HE.out.2.2.2.2.2.1] at c2
                              have c3 := HA5.out.get (i := 3) (by rw [v.h]; omega)
                              rw [show v.l.getD 3 0 = e3 from HE.out.2.2.2.2.2.2.1] at c3
                              have c4 := HA5.out.get (i := 4) (by rw [v.h]; omega)
                              rw [show v.l.getD 4 0 = e4 from HE.out.2.2.2.2.2.2.2.1] at c4
                              have c5 := HA5.out.get (i := 5) (by rw [v.h]; omega)
                              rw [show v.l.getD 5 0 = e5 from HE.out.2.2.2.2.2.2.2.2.1] at c5
                              have c6 := HA5.out.get (i := 6) (by rw [v.h]; omega)
                              rw [show v.l.getD 6 0 = e6 from HE.out.2.2.2.2.2.2.2.2.2.1] at c6
                              have c7 := HA5.out.get (i := 7) (by rw [v.h]; omega)
                              rw [show v.l.getD 7 0 = e7 from HE.out.2.2.2.2.2.2.2.2.2.2] at c7
                              clear hcf
                              have hg15 := Arr.to8 HA5.out
                              have hf15 := HA5.out.free
                              go_wp2_with fail
                              have hR : (rndN ws hs (i + 1)).l = [(T1 + T2) % 4294967296, e0, e1, e2, (e3 + T1) % 4294967296, e4, e5, e6] := by
                                obtain ⟨q0, q1, q2, q3, q4, q5, q6, q7, q8, q9, qa⟩ := HE.out
                                show (rnd (K256.l.getD i 0) (ws.getD i 0) (rndN ws hs i)).l = _
                                rw [q0, q1, q2]
                                show [(tOne kk ww (v.l.getD 4 0) (v.l.getD 5 0) (v.l.getD 6 0) (v.l.getD 7 0) + tTwo (v.l.getD 0 0) (v.l.getD 1 0) (v.l.getD 2 0)) % 4294967296, v.l.getD 0 0, v.l.getD 1 0, v.l.getD 2 0, (v.l.getD 3 0 + tOne kk ww (v.l.getD 4 0) (v.l.getD 5 0) (v.l.getD 6 0) (v.l.getD 7 0)) % 4294967296, v.l.getD 4 0, v.l.getD 5 0, v.l.getD 6 0] = _
                                rw [q3, q4, q5, q6, q7, q8, q9, qa, ← HT1.out, ← HT2.out]
                              refine ⟨⟨i + 1, by omega, by go_num, Lib.hid ⟨HC5.out.tr (chg_put (S := fun q => q = g15) rfl _), ?_⟩⟩, by simp only [intOf]; omega⟩
                              rw [hR]
                              exact Arr.put8 hg15 hf15
                              --END R
                        · obtain rfl : i = 64 := by omega
                          rw [show ((64 : Nat) : Int) = 64 from rfl]
                          obtain ⟨v, hv⟩ : ∃ v, rndN ws hs 64 = v := ⟨_, rfl⟩
                          rw [hv] at hb
                          have HV := Lib.hid hv
                          have hbc := hb.out.1
                          have HX4 := Lib.hid (show Chg (fun q => q = g4 ∨ wL.heap.size ≤ q) wL wr ∧ Arr wr g4 hs.l from ⟨H9c.out.1.tr (hbc.sub (fun q e => .inr (by have h1 := HVc.out.2.1; have h2 := HG9.out.2; omega))), H9c.out.2.chg (by rw [hs.h]; omega) hbc (by have h1 := HVc.out.2.1; have h2 := HG9.out.1; omega)⟩)
                          have HX15 := Lib.hid (show Arr wr g15 v.l ∧ ¬ g15 = g4 from ⟨hb.out.2, by have h1 := HVc.out.2.1; have h2 := HG9.out.1; omega⟩)
                          clear hb hbc hv
                          go_wp2_with fail
                          go_loopw [218] (fun iv wx => ∃ i : Nat, i ≤ 8 ∧ iv = .int .i64 i ∧ Hid (Chg (fun q => q = g4) wr wx ∧ Arr wx g4 (addN hs v i))) (fun iv _ => 8 - (intOf iv).toNat)
                          case atStart => exact ⟨0, by omega, rfl, Lib.hid ⟨Chg.refl _ _, HX4.out.2⟩⟩
                          case round =>
                            obtain ⟨i, hi, rfl, hb⟩ := hrel
                            by_cases hlt5 : i < 8
                            · as_aux_lemma =>
                              have hba := hb.out.2
                              have hbc := hb.out.1
                              have ca := hba.get (i := i) (by rw [addN_len]; omega)
                              have cb := (HX15.out.1.chg (by rw [v.h]; omega) hbc HX15.out.2).get (i := i) (by rw [v.h]; omega)
                              obtain ⟨ea, hea⟩ : ∃ e, (addN hs v i).getD i 0 = e := ⟨_, rfl⟩
                              obtain ⟨eb, heb⟩ : ∃ e, v.l.getD i 0 = e := ⟨_, rfl⟩
                              rw [hea] at ca; rw [heb] at cb
                              have HE := Lib.hid (show _ ∧ _ from ⟨hea, heb⟩)
                              have HA := Lib.hid hba; have HC := Lib.hid hbc
                              clear hb hba hbc hea heb
                              have hi8 : (i : Int) < 8 := by omega
                              go_wp2_with fail
                              refine wp_region_G GB [8] GB.rf (by kernel_rfl) ?_
                              refine wpG_looks 1 24 [0,1,2,3,4,5,6,7] rfl GB.rf GB.tr (by kernel_rfl) (fun _ _ _ _ hd h => And.intro (hd ▸ And.left h) (And.right h)) rfl (by kernel_rfl) ?_
                              intro ι W9 hne CW
                              have ya := fun z => GB.cell (CW.out z) ca
                              have yb := fun z => GB.cell (CW.out z) cb
                              repeat (refine wpLooksG_step (fun K hK => ?_); go_simp; refine hK _ ?_; clear hK K)
                              refine wpLooksG_nil ?_
                              clear ya yb CW hne W9 ι
                              refine wpG_force 8 _ rfl (by kernel_rfl) rfl fun wa hwa K hK => ?_
                              have haw := HA.out.step (by rw [addN_len]; omega) (GB.undrew hwa)
                              have hcw := haw.get (i := i) (by rw [addN_len]; omega)
                              have hfw := haw.frozen i
                              go_simp
                              refine hK _ _ (fun h => absurd (by simp) h) ?_
                              clear hK K hcw hfw
                              refine wpG_end (by kernel_rfl) (fun wn hwn => ?_) _
                              have hst := (haw.set (i := i) (by rw [addN_len]; omega) _).step (by rw [List.length_set, addN_len]; omega) hwn
                              have hcst := (HC.out.tr (Chg.of_bel (GB.undrew hwa) _)).tr ((chg_cell (S := fun q => q = g4) (w := wa) (b := g4) (o := i) rfl _).tr (Chg.of_bel hwn _))
                              rw [← HE.out.1, ← HE.out.2] at hst
                              have HB' := Lib.hid (show Chg (fun q => q = g4) _ wn ∧ Arr wn g4 (addN hs v (i + 1)) from ⟨hcst, hst⟩)
                              clear hst hcst haw hwn hwa
                              go_wp2_with fail
                              exact ⟨⟨i + 1, by omega, by go_num, HB'⟩, by simp only [intOf]; omega⟩
                            · obtain rfl : i = 8 := by omega
                              rw [show ((8 : Nat) : Int) = 8 from rfl]
                              have HZ := Lib.hid (show Chg (fun q => q = g4 ∨ wL.heap.size ≤ q) wL _ ∧ Arr _ g4 (addN hs v 8) from ⟨HX4.out.1.tr (hb.out.1.sub (fun q e => .inl e)), hb.out.2⟩)
                              clear hb
                              have hk64 : (64 : Int) * (k : Int) + 64 = 64 * ((k + 1 : Nat) : Int) := by omega
                              have hnn := HN.out
                              have hw13 : IntKind.i64.wrap (64 * (k : Int) + 64) = 64 * (k : Int) + 64 := IntWalk.i64_in _ (by omega)
                              go_wp2_with fail
                              exact ⟨⟨k + 1, ⟨addN hs v 8, addN_len _ _ _⟩, Lib.hid (by rw [← HV.out, ← HWS.out, HHS.out]; rfl), by omega, by push_cast; rfl, HZ⟩, by simp only [intOf]; omega⟩
              --END B
            · as_aux_lemma =>
              obtain rfl : k = nblk n := by omega
              have HBE := Lib.hid (HBL.out _ hb.out.1)
              have HAE := Lib.hid hb.out.2
              have HNE : ¬ (g2 = g4 ∨ wL.heap.size ≤ g2) := (fun e => by
                have h1 := HS4.out; have h2 := HGL.out
                rcases e with e | e
                · have e : g2 = g4 := e
                  omega
                · have e : wL.heap.size ≤ g2 := e
                  omega)
              have HOE := Lib.hid (hb.out.1.get (GB.get HB7.out.bel HO4.out) HNE)
              have HFOE := Lib.hid (hb.out.1.free (gb_free HB7.out.bel (get?_lt HO4.out) HFO4.out) (get?_lt (GB.get HB7.out.bel HO4.out)) HNE)
              clear HNE
              clear hb
              go_wp2_with fail
              obtain ⟨g22, hg22⟩ : ∃ g, wr.heap.size = g := ⟨_, rfl⟩
              have k22 := get?_new (w := wr) 35 (default : GHash)
              have b22 : blkFree (wr.alloc (.cells (GHash.enc default).toArray 35)) wr.heap.size = true := blkFree_new _ _ rfl
              have hb22 := (Bel.refl wr).alloc (.cells (GHash.enc default).toArray 35)
              change get? GHash (wr.alloc (.cells (GHash.enc default).toArray 35)) _ = _ at k22
              have HGE := Lib.hid (show g4 < g22 ∧ g2 < g22 ∧ w.heap.size ≤ g22 from ⟨by have := HAE.out.lt (by rw [hs.h]; omega); omega, by have h1 : g2 < wr.heap.size := get?_lt HOE.out; omega, by have := Below.size HBE.out; omega⟩)
              rw [hg22] at k22 b22 ⊢
              generalize wr.alloc (.cells (GHash.enc default).toArray 35) = wo at k22 b22 hb22 ⊢
              have HBO := Lib.hid (HBE.out.trans hb22); have HAO := Lib.hid (HAE.out.step (by rw [hs.h]; omega) hb22); have HOO := Lib.hid (GB.get hb22 HOE.out); have HFO := Lib.hid (gb_free hb22 (get?_lt HOE.out) HFOE.out)
              have HK22 := Lib.hid (And.intro k22 b22)
              clear k22 b22 hb22 hg22
              go_loopw [23] (fun iv wx => ∃ i : Nat, i ≤ 8 ∧ iv = .int .i64 i ∧ Hid (Chg (fun q => q = g22) wo wx ∧ get? GHash wx ⟨g22, 0, none⟩ = some (outN hs i) ∧ blkFree wx g22 = true)) (fun iv _ => 8 - (intOf iv).toNat)
              case atStart => exact ⟨0, by omega, rfl, Lib.hid ⟨Chg.refl _ _, HK22.out.1, HK22.out.2⟩⟩
              case round =>
                obtain ⟨i, hi, rfl, hb⟩ := hrel
                by_cases hlt6 : i < 8
                · as_aux_lemma =>
                  have hba := HAO.out.chg (by rw [hs.h]; omega) hb.out.1 (show ¬ g4 = g22 by have := HGE.out; omega)
                  have c0 := hba.get (i := i) (by rw [hs.h]; omega)
                  obtain ⟨e, he⟩ : ∃ e, hs.l.getD i 0 = e := ⟨_, rfl⟩
                  rw [he] at c0
                  obtain ⟨O, hO⟩ : ∃ O, outN hs i = O := ⟨_, rfl⟩
                  rw [hO] at hb
                  have HE := Lib.hid (And.intro he hO); have HC := Lib.hid hb.out.1; have HG := Lib.hid hb.out.2.1; have HF := Lib.hid hb.out.2.2
                  clear hb hba he hO
                  have hi8 : (i : Int) < 8 := by omega
                  have z0 : IntKind.i64.wrap (4 * (i : Int)) = 4 * (i : Int) := IntWalk.i64_in _ (by omega)
                  have z1 : IntKind.i64.wrap (4 * (i : Int) + 1) = 4 * (i : Int) + 1 := IntWalk.i64_in _ (by omega)
                  have z2 : IntKind.i64.wrap (4 * (i : Int) + 2) = 4 * (i : Int) + 2 := IntWalk.i64_in _ (by omega)
                  have z3 : IntKind.i64.wrap (4 * (i : Int) + 3) = 4 * (i : Int) + 3 := IntWalk.i64_in _ (by omega)
                  have l0 : 4 * (i : Int) < 32 := by omega
                  have l1 : 4 * (i : Int) + 1 < 32 := by omega
                  have l2 : 4 * (i : Int) + 2 < 32 := by omega
                  have l3 : 4 * (i : Int) + 3 < 32 := by omega
                  have v0 : (0 : Int) ≤ 4 * (i : Int) := by omega
                  have v1 : (0 : Int) ≤ 4 * (i : Int) + 1 := by omega
                  have v2 : (0 : Int) ≤ 4 * (i : Int) + 2 := by omega
                  have v3 : (0 : Int) ≤ 4 * (i : Int) + 3 := by omega
                  have n0 : (4 * (i : Int)).toNat = 4 * i := by omega
                  have n1 : (4 * (i : Int) + 1).toNat = 4 * i + 1 := by omega
                  have n2 : (4 * (i : Int) + 2).toNat = 4 * i + 2 := by omega
                  have n3 : (4 * (i : Int) + 3).toNat = 4 * i + 3 := by omega
                  go_wp2_with fail
                  refine wp_region_H GB (Chg (fun q => q = g22)) [31, 33, 35, 37] [] GB.rf (by kernel_rfl) ?_
                  refine wpH_looks 7 40 [0, 1, 2, 3, 4, 5, 6, 7, 8, 9, 10, 11, 12, 13, 14, 15, 16, 17, 18, 19, 20, 21, 22, 23, 24, 25, 26, 27, 28, 29, 30] rfl GB.rf GB.tr (Chg.refl _) (fun _ _ _ h k => h.tr k) (fun _ _ h => Chg.of_bel h _) (by kernel_rfl) (fun _ _ _ _ hd h => And.intro (hd ▸ And.left h) (And.right h)) rfl (by kernel_rfl) ?_
                  intro ι W9 hne CW
                  have y0 := fun z => (CW.out z).cell c0 (show ¬ g4 = g22 by have := HGE.out; omega)
                  repeat (refine wpLooksG_step (fun K hK => ?_); go_simp; refine hK _ ?_; clear hK K)
                  refine wpLooksG_nil ?_
                  clear y0 CW hne W9 ι
                  refine wpH_force 31 _ rfl (by kernel_rfl) rfl fun wa0 hwa0 K hK => ?_
                  have hb0 := GB.undrew hwa0
                  have gg := GB.get hb0 HG.out
                  have ff := gb_free hb0 (get?_lt HG.out) HF.out
                  obtain ⟨u0, cc⟩ := hash_cell gg (i := 4 * i) (by omega)
                  have fz := frozen_of_free (a := ⟨g22, 4 * i, none⟩) ff
                  go_simp
                  refine hK _ _ (fun h => absurd (by simp) h) (fun _ => chg_cell (S := fun q => q = g22) rfl _) ?_
                  have HG0 := Lib.hid (hash_set gg (i := 4 * i) (by omega) (v := IntKind.u8.wrap (e / 16777216)) (u8w_range _).1 (u8w_range _).2)
                  have HF0 := Lib.hid (show blkFree (wa0.setCell ⟨g22, 4 * i, none⟩ (.int .u8 (IntKind.u8.wrap (e / 16777216)))) g22 = true by rw [blkFree_setCell]; exact ff)
                  have HC0 := Lib.hid ((HC.out.tr (Chg.of_bel hb0 _)).tr (chg_cell (S := fun q => q = g22) (w := wa0) (b := g22) (o := 4 * i) rfl (.int .u8 (IntKind.u8.wrap (e / 16777216)))))
                  clear hK K gg ff cc fz u0 hb0 hwa0
                  generalize wa0.setCell ⟨g22, 4 * i, none⟩ (.int .u8 (IntKind.u8.wrap (e / 16777216))) = wb0 at HG0 HF0 HC0 ⊢
                  clear HG HF HC
                  refine wpH_force 32 _ rfl (by kernel_rfl) rfl fun wi1 hwi1 K hK => ?_
                  go_simp
                  refine hK _ _ (fun _ => GB.rf _) (fun _ => Chg.refl _ _) ?_
                  clear hK K
                  refine wpH_force 33 _ rfl (by kernel_rfl) rfl fun wa1 hwa1 K hK => ?_
                  have hb1 := GB.tr _ _ _ hwi1 hwa1
                  have gg := GB.get hb1 HG0.out
                  have ff := gb_free hb1 (get?_lt HG0.out) HF0.out
                  obtain ⟨u0, cc⟩ := hash_cell gg (i := 4 * i + 1) (by omega)
                  have fz := frozen_of_free (a := ⟨g22, 4 * i + 1, none⟩) ff
                  go_simp
                  refine hK _ _ (fun h => absurd (by simp) h) (fun _ => chg_cell (S := fun q => q = g22) rfl _) ?_
                  have HG1 := Lib.hid (hash_set gg (i := 4 * i + 1) (by omega) (v := IntKind.u8.wrap (e / 65536)) (u8w_range _).1 (u8w_range _).2)
                  have HF1 := Lib.hid (show blkFree (wa1.setCell ⟨g22, 4 * i + 1, none⟩ (.int .u8 (IntKind.u8.wrap (e / 65536)))) g22 = true by rw [blkFree_setCell]; exact ff)
                  have HC1 := Lib.hid ((HC0.out.tr (Chg.of_bel hb1 _)).tr (chg_cell (S := fun q => q = g22) (w := wa1) (b := g22) (o := 4 * i + 1) rfl (.int .u8 (IntKind.u8.wrap (e / 65536)))))
                  clear hK K gg ff cc fz u0 hb1 hwa1 hwi1
                  generalize wa1.setCell ⟨g22, 4 * i + 1, none⟩ (.int .u8 (IntKind.u8.wrap (e / 65536))) = wb1 at HG1 HF1 HC1 ⊢
                  clear HG0 HF0 HC0
                  refine wpH_force 34 _ rfl (by kernel_rfl) rfl fun wi2 hwi2 K hK => ?_
                  go_simp
                  refine hK _ _ (fun _ => GB.rf _) (fun _ => Chg.refl _ _) ?_
                  clear hK K
                  refine wpH_force 35 _ rfl (by kernel_rfl) rfl fun wa2 hwa2 K hK => ?_
                  have hb2 := GB.tr _ _ _ hwi2 hwa2
                  have gg := GB.get hb2 HG1.out
                  have ff := gb_free hb2 (get?_lt HG1.out) HF1.out
                  obtain ⟨u0, cc⟩ := hash_cell gg (i := 4 * i + 2) (by omega)
                  have fz := frozen_of_free (a := ⟨g22, 4 * i + 2, none⟩) ff
                  go_simp
                  refine hK _ _ (fun h => absurd (by simp) h) (fun _ => chg_cell (S := fun q => q = g22) rfl _) ?_
                  have HG2 := Lib.hid (hash_set gg (i := 4 * i + 2) (by omega) (v := IntKind.u8.wrap (e / 256)) (u8w_range _).1 (u8w_range _).2)
                  have HF2 := Lib.hid (show blkFree (wa2.setCell ⟨g22, 4 * i + 2, none⟩ (.int .u8 (IntKind.u8.wrap (e / 256)))) g22 = true by rw [blkFree_setCell]; exact ff)
                  have HC2 := Lib.hid ((HC1.out.tr (Chg.of_bel hb2 _)).tr (chg_cell (S := fun q => q = g22) (w := wa2) (b := g22) (o := 4 * i + 2) rfl (.int .u8 (IntKind.u8.wrap (e / 256)))))
                  clear hK K gg ff cc fz u0 hb2 hwa2 hwi2
                  generalize wa2.setCell ⟨g22, 4 * i + 2, none⟩ (.int .u8 (IntKind.u8.wrap (e / 256))) = wb2 at HG2 HF2 HC2 ⊢
                  clear HG1 HF1 HC1
                  refine wpH_force 36 _ rfl (by kernel_rfl) rfl fun wi3 hwi3 K hK => ?_
                  go_simp
                  refine hK _ _ (fun _ => GB.rf _) (fun _ => Chg.refl _ _) ?_
                  clear hK K
                  refine wpH_force 37 _ rfl (by kernel_rfl) rfl fun wa3 hwa3 K hK => ?_
                  have hb3 := GB.tr _ _ _ hwi3 hwa3
                  have gg := GB.get hb3 HG2.out
                  have ff := gb_free hb3 (get?_lt HG2.out) HF2.out
                  obtain ⟨u0, cc⟩ := hash_cell gg (i := 4 * i + 3) (by omega)
                  have fz := frozen_of_free (a := ⟨g22, 4 * i + 3, none⟩) ff
                  go_simp
                  refine hK _ _ (fun h => absurd (by simp) h) (fun _ => chg_cell (S := fun q => q = g22) rfl _) ?_
                  have HG3 := Lib.hid (hash_set gg (i := 4 * i + 3) (by omega) (v := IntKind.u8.wrap (e)) (u8w_range _).1 (u8w_range _).2)
                  have HF3 := Lib.hid (show blkFree (wa3.setCell ⟨g22, 4 * i + 3, none⟩ (.int .u8 (IntKind.u8.wrap (e)))) g22 = true by rw [blkFree_setCell]; exact ff)
                  have HC3 := Lib.hid ((HC2.out.tr (Chg.of_bel hb3 _)).tr (chg_cell (S := fun q => q = g22) (w := wa3) (b := g22) (o := 4 * i + 3) rfl (.int .u8 (IntKind.u8.wrap (e)))))
                  clear hK K gg ff cc fz u0 hb3 hwa3 hwi3
                  generalize wa3.setCell ⟨g22, 4 * i + 3, none⟩ (.int .u8 (IntKind.u8.wrap (e))) = wb3 at HG3 HF3 HC3 ⊢
                  clear HG2 HF2 HC2
                  refine wpH_end (by kernel_rfl) (fun wn hwn => ?_) _
                  have HB := Lib.hid (show Chg (fun q => q = g22) wo wn ∧ get? GHash wn ⟨g22, 0, none⟩ = some (outN hs (i + 1)) ∧ blkFree wn g22 = true from ⟨HC3.out.tr (Chg.of_bel hwn _), by rw [GB.get hwn HG3.out]; show _ = some (outB (hs.l.getD i 0) (outN hs i) i); rw [HE.out.1, HE.out.2]; rfl, gb_free hwn (get?_lt HG3.out) HF3.out⟩)
                  clear HG3 HF3 HC3 hwn
                  go_wp2_with fail
                  exact ⟨⟨i + 1, by omega, by go_num, HB⟩, by simp only [intOf]; omega⟩
                · obtain rfl : i = 8 := by omega
                  rw [show ((8 : Nat) : Int) = 8 from rfl]
                  have hg22 := hb.out.2.1
                  have hg2 := hb.out.1.get HOO.out (show ¬ g2 = g22 by have := HGE.out; omega)
                  have hf2 : blkFree _ g2 = true := hb.out.1.free HFO.out (get?_lt HOO.out) (show ¬ g2 = g22 by have := HGE.out; omega)
                  have HFIN := Lib.hid (show Bel w _ from Chg.bel2 HBO.out hb.out.1 (by rintro q (rfl : q = g22); exact HGE.out.2.2))
                  clear hb
                  go_wp2_with fail
                  refine bodyPost_ret (results_cell (x := outN hs 8) rfl rfl ag35 sz35 (get?_putV _ hg2)) rfl ⟨?_, ?_⟩
                  · rw [GHash.val_eq, HHS.out, ← HL.out]; rfl
                  · exact Chg.bel2 HFIN.out (chg_put (S := fun k => k = g2) rfl _) (by rintro q (rfl : q = g2); exact HS4.out.1)
    · have hc2 : ((((n : Int) + 1 + (k : Int)) % 64 != 56)) = true := by simpa using hc
      obtain ⟨v7, w7, hrun7, hb7⟩ := (hb.out.step ((Bel.refl wr).alloc (.cells #[.int .u8 (0 : Nat)] 5))).app 1 (sl_byte wr 0 (by omega)) (by have := HL.out; simp; unfold padL at hk; omega)
      rw [show ((0 : Nat) : Int) = 0 from rfl] at hrun7
      have hb8 : Bs w4 w7 v7 (xs ++ [⟨128⟩] ++ List.replicate (k + 1) ⟨0⟩) := by rw [List.replicate_succ', ← List.append_assoc]; exact hb7
      obtain ⟨A2, m2, c2, rfl, hm2, hs2⟩ := hb8.slV
      have hmm : m2 = n + 1 + (k + 1) := by rw [← hm2, ← HL.out]; simp only [List.length_append, List.length_cons, List.length_nil, List.length_replicate]
      subst hmm
      have HB7 := Lib.hid hb8
      clear hb hb7 hb8 hs1 hm1 hs2 hm2
      go_wp2_with fail
      exact ⟨⟨k + 1, by unfold padL at hk ⊢; omega, HB7⟩, by simp only [lenV]; unfold padL at hk ⊢; omega⟩
end Go.Proofs.YtfhhcgldikmejaaGreatDoor
/- The document's hash of a commitment. Conditions: those named in each theorem. -/
namespace Go.Proofs.YtfhhcgldikmejaaGreatDoor
open Go Go.RowKit Go.Gv Go.Proofs

def commitW : List U8 := [⟨99⟩, ⟨111⟩, ⟨109⟩, ⟨109⟩, ⟨105⟩, ⟨116⟩]
/-- The hash of a commitment. -/
def ofL (n : GName) (h : GHash) (ys : List U8) : GHash := sumL [rowL commitW, intL n.client, intL n.seq, hashL h, rowL ys].flatten
theorem rowL_len {l : List U8} {m : Nat} (h : l.length ≤ m) (hm : m ≤ 100000) : (rowL l).length ≤ m + 10 := by
  have := intL_le (n := (l.length : Int)) (by omega)
  unfold rowL
  rw [List.length_append]
  omega
set_option maxRecDepth 100000 in
set_option maxHeartbeats 4000000 in
theorem ofD_any (n : GName) (h : GHash) (A : Option Addr) (m c : Nat) (ys : List U8) (w : World) (hy : Sl U8 w w.heap.size A m ys) (hm : m ≤ 100000) (h1 : n.client ≤ 9223372036854775807) (h2 : n.seq ≤ 9223372036854775807) :
    Calls Tryz.prog 27 #[n.val, h.val, .slice A m c] w fun e w' => e = .returned (ofL n h ys).val ∧ Bel w w' := by
  have HG := Lib.hid (show get? GName (((w.alloc (.cells (GName.enc n).toArray 33)).alloc (.cells (GHash.enc h).toArray 35)).alloc (.cells (GHash.enc default).toArray 35)) ⟨w.heap.size, 0, none⟩ = some n from get?_alloc _ (get?_alloc _ (get?_new _ _)))
  have HH := Lib.hid (show get? GHash (((w.alloc (.cells (GName.enc n).toArray 33)).alloc (.cells (GHash.enc h).toArray 35)).alloc (.cells (GHash.enc default).toArray 35)) ⟨w.heap.size + 1, 0, none⟩ = some h by
    have := get?_new (w := w.alloc (.cells (GName.enc n).toArray 33)) 35 h
    rw [World.size_alloc] at this
    exact get?_alloc _ this)
  have HO := Lib.hid (show get? GHash (((w.alloc (.cells (GName.enc n).toArray 33)).alloc (.cells (GHash.enc h).toArray 35)).alloc (.cells (GHash.enc default).toArray 35)) ⟨w.heap.size + 2, 0, none⟩ = some default by
    have := get?_new (w := (w.alloc (.cells (GName.enc n).toArray 33)).alloc (.cells (GHash.enc h).toArray 35)) 35 (default : GHash)
    rwa [World.size_alloc, World.size_alloc] at this)
  have HF := Lib.hid (show blkFree (((w.alloc (.cells (GName.enc n).toArray 33)).alloc (.cells (GHash.enc h).toArray 35)).alloc (.cells (GHash.enc default).toArray 35)) (w.heap.size + 2) = true by
    have : blkFree (((w.alloc (.cells (GName.enc n).toArray 33)).alloc (.cells (GHash.enc h).toArray 35)).alloc (.cells (GHash.enc default).toArray 35)) ((w.alloc (.cells (GName.enc n).toArray 33)).alloc (.cells (GHash.enc h).toArray 35)).heap.size = true := blkFree_new _ _ rfl
    rwa [World.size_alloc, World.size_alloc] at this)
  have HB := Lib.hid ((((Bel.refl w).alloc (.cells (GName.enc n).toArray 33)).alloc (.cells (GHash.enc h).toArray 35)).alloc (.cells (GHash.enc default).toArray 35))
  have HY := Lib.hid (hy.stepB HB.out)
  have HYL := Lib.hid (show ys.length = m from hy.1)
  clear hy
  go_enter Tryz.func27, Tryz.ntmps27
  go_upto_region 1 with fail
  generalize ((w.alloc (.cells (GName.enc n).toArray 33)).alloc (.cells (GHash.enc h).toArray 35)).alloc (.cells (GHash.enc default).toArray 35) = ws at HG HH HO HF HB HY ⊢
  obtain ⟨q, hq⟩ : ∃ q, w.heap.size = q := ⟨_, rfl⟩
  have HQ := Lib.hid hq
  rw [hq] at HG HH HO HF ⊢
  have hqs : q + 2 < ws.heap.size := get?_lt HO.out
  have HQS := Lib.hid hqs
  clear hqs hq
  refine wp_region_H GB (Chg (fun k => k = q + 2 ∨ ws.heap.size ≤ k)) [1, 15] [] GB.rf (by kernel_rfl) ?_
  refine wpH_looks 10 18 [3, 4, 6, 7, 9, 10] rfl GB.rf GB.tr (Chg.refl _) (fun _ _ _ h k => h.tr k) (fun _ _ h => Chg.of_bel h _) (by kernel_rfl) (fun _ _ _ _ hd h => And.intro (hd ▸ And.left h) (And.right h)) rfl (by kernel_rfl) ?_
  intro ι W hne CW
  have CX : ∀ z, Chg (fun k => k = q + 2 ∨ ws.heap.size ≤ k) ws (W z) := fun z => (Chg.of_bel ((Bel.refl ws).drew) _).tr (CW.out z)
  have nq : ¬ (q = q + 2 ∨ ws.heap.size ≤ q) := by have := HQS.out; omega
  have k0 := GName.at_client HG.out
  simp only [Addr.add_lit, Nat.zero_add] at k0
  have j0 := fun z => (CX z).cell k0 nq
  have k1 := GName.at_seq HG.out
  simp only [Addr.add_lit, Nat.zero_add] at k1
  have j1 := fun z => (CX z).cell k1 nq
  clear k0 k1 CX nq
  repeat (refine wpLooksG_step (fun K hK => ?_); go_simp; refine hK _ ?_; clear hK K)
  refine wpLooksG_nil ?_
  clear j0 j1 CW hne W ι
  refine wpH_force 0 _ rfl (by kernel_rfl) rfl fun wa hwa K hK => ?_
  go_simp
  refine hK _ _ (fun _ => GB.al _ _) (fun _ => Chg.of_bel (GB.al _ _) _) ?_
  clear hK K
  have hrow : (wa.alloc (.cells #[.int .u8 99, .int .u8 111, .int .u8 109, .int .u8 109, .int .u8 105, .int .u8 116] 5)).heap[wa.heap.size]? = some (.cells #[.int .u8 99, .int .u8 111, .int .u8 109, .int .u8 109, .int .u8 105, .int .u8 116] 5) := heap_alloc_new wa _
  have hsz : (wa.alloc (.cells #[.int .u8 99, .int .u8 111, .int .u8 109, .int .u8 109, .int .u8 105, .int .u8 116] 5)).heap.size = wa.heap.size + 1 := by simp
  have hb1 : Bel ws (wa.alloc (.cells #[.int .u8 99, .int .u8 111, .int .u8 109, .int .u8 109, .int .u8 105, .int .u8 116] 5)) := (GB.undrew hwa).trans ((Bel.refl wa).alloc _)
  have hle : ws.heap.size ≤ wa.heap.size := Below.size (GB.undrew hwa)
  obtain ⟨L, hLb⟩ : ∃ L, wa.heap.size = L := ⟨_, rfl⟩
  rw [hLb] at hrow hsz hle ⊢
  change wpH _ _ _ _ _ _ _ _ _ _ _ (wa.alloc (.cells #[.int .u8 99, .int .u8 111, .int .u8 109, .int .u8 109, .int .u8 105, .int .u8 116] 5))
  generalize wa.alloc (.cells #[.int .u8 99, .int .u8 111, .int .u8 109, .int .u8 109, .int .u8 105, .int .u8 116] 5) = w1 at hrow hsz hb1 ⊢
  have HP := Lib.hid (show w1.heap[L]? = some (.cells #[.int .u8 99, .int .u8 111, .int .u8 109, .int .u8 109, .int .u8 105, .int .u8 116] 5) ∧ L < w1.heap.size ∧ ws.heap.size ≤ L ∧ Bel ws w1 from ⟨hrow, by omega, hle, hb1⟩)
  clear hrow hsz hb1 hle hLb hwa
  refine wpH_force 1 _ rfl (by kernel_rfl) rfl fun wy hwy K hK => ?_
  have hrow := (Below.block hwy L HP.out.2.1).trans HP.out.1
  obtain ⟨wz, hcv, hch, hrz⟩ := conv_mark 6 6 hrow
  go_simp
  refine hK _ _ (fun h => absurd (by simp) h) (fun _ => hch.sub (fun k e => .inr (e ▸ HP.out.2.2.1))) ?_
  have hbz : Bel ws wz := Chg.bel2 (HP.out.2.2.2.trans hwy) hch (fun k e => e ▸ HP.out.2.2.1)
  have hsl : Sl U8 wz wz.heap.size (some ⟨L, 0, none⟩) 6 commitW := Sl.of_row hrz rfl rfl (by have := hch.size; have := HP.out.2.1; have := Below.size hwy; omega)
  have HBZ := Lib.hid hbz; have HSL := Lib.hid hsl
  clear hK K hrow hcv hch hrz hbz hsl hwy HP
  clear wy
  refine wpH_force 2 _ rfl (by kernel_rfl) rfl fun wa hwa K hK => ?_
  go_simp
  have ha1 : Bel wz wa := hwa
  refine (rowD_any (some ⟨L, 0, none⟩) 6 6 commitW wa (HSL.out.stepB ha1) (by omega)).mono ?_
  rintro _ wb1 ⟨v1, rfl, hb1⟩
  obtain ⟨A1, m1, c1, rfl, hm1, hs1⟩ := hb1.slV
  refine hK _ _ (fun _ => hb1.bel) (fun _ => Chg.of_bel hb1.bel _) ?_
  have HB1 := Lib.hid (ha1.trans hb1.bel); have HS1 := Lib.hid hs1; have HM1 := Lib.hid hm1
  clear hK K ha1 hb1 hs1 hm1 hwa
  refine wpH_force 5 _ rfl (by kernel_rfl) rfl fun wa hwa K hK => ?_
  go_simp
  have ha2 : Bel wb1 wa := hwa
  refine (intD_any n.client wa h1).mono ?_
  rintro _ wb2 ⟨v2, rfl, hb2⟩
  obtain ⟨A2, m2, c2, rfl, hm2, hs2⟩ := hb2.slV
  refine hK _ _ (fun _ => hb2.bel) (fun _ => Chg.of_bel hb2.bel _) ?_
  have HB2 := Lib.hid (ha2.trans hb2.bel); have HS2 := Lib.hid hs2; have HM2 := Lib.hid hm2
  clear hK K ha2 hb2 hs2 hm2 hwa
  refine wpH_force 8 _ rfl (by kernel_rfl) rfl fun wa hwa K hK => ?_
  go_simp
  have ha3 : Bel wb2 wa := hwa
  refine (intD_any n.seq wa h2).mono ?_
  rintro _ wb3 ⟨v3, rfl, hb3⟩
  obtain ⟨A3, m3, c3, rfl, hm3, hs3⟩ := hb3.slV
  refine hK _ _ (fun _ => hb3.bel) (fun _ => Chg.of_bel hb3.bel _) ?_
  have HB3 := Lib.hid (ha3.trans hb3.bel); have HS3 := Lib.hid hs3; have HM3 := Lib.hid hm3
  clear hK K ha3 hb3 hs3 hm3 hwa
  refine wpH_force 11 _ rfl (by kernel_rfl) rfl fun wa hwa K hK => ?_
  go_simp
  have ha4 : Bel wb3 wa := hwa
  refine (rowD_any A m c ys wa (HY.out.stepB (HBZ.out.trans (HB1.out.trans (HB2.out.trans (HB3.out.trans ha4))))) (by omega)).mono ?_
  rintro _ wb4 ⟨v4, rfl, hb4⟩
  obtain ⟨A4, m4, c4, rfl, hm4, hs4⟩ := hb4.slV
  refine hK _ _ (fun _ => hb4.bel) (fun _ => Chg.of_bel hb4.bel _) ?_
  have HB4 := Lib.hid (ha4.trans hb4.bel); have HS4 := Lib.hid hs4; have HM4 := Lib.hid hm4
  clear hK K ha4 hb4 hs4 hm4 hwa
  refine wpH_force 12 _ rfl (by kernel_rfl) rfl fun wa hwa K hK => ?_
  have ha5 : Bel wb4 wa := hwa
  go_simp
  refine hK _ _ (fun _ => GB.al _ _) (fun _ => Chg.of_bel (GB.al _ _) _) ?_
  clear hK K
  have hrows : RowsU wa [⟨A1, m1, c1⟩, ⟨A2, m2, c2⟩, ⟨A3, m3, c3⟩, ⟨some ⟨q + 1, 0, none⟩, 32, 32⟩, ⟨A4, m4, c4⟩] [rowL commitW, intL n.client, intL n.seq, hashL h, rowL ys] := by
    refine ⟨rfl, fun i hd l e1 e2 => ?_⟩
    have hh := sl_hash (GB.get (HBZ.out.trans (HB1.out.trans (HB2.out.trans (HB3.out.trans (HB4.out.trans ha5))))) HH.out)
    match i, e1, e2 with
    | 0, e1, e2 => injection e1 with e1; injection e2 with e2; subst e1 e2; exact HS1.out.stepB (HB2.out.trans (HB3.out.trans (HB4.out.trans ha5)))
    | 1, e1, e2 => injection e1 with e1; injection e2 with e2; subst e1 e2; exact HS2.out.stepB (HB3.out.trans (HB4.out.trans ha5))
    | 2, e1, e2 => injection e1 with e1; injection e2 with e2; subst e1 e2; exact HS3.out.stepB (HB4.out.trans ha5)
    | 3, e1, e2 => injection e1 with e1; injection e2 with e2; subst e1 e2; exact hh
    | 4, e1, e2 => injection e1 with e1; injection e2 with e2; subst e1 e2; exact HS4.out.stepB ha5
    | n + 5, e1, _ => simp at e1
  have hsl : Sl Hdr (wa.alloc (.cells #[Value.slice A1 m1 c1, Value.slice A2 m2 c2, Value.slice A3 m3 c3, Value.slice (some ⟨q + 1, 0, none⟩) 32 32, Value.slice A4 m4 c4] 61)) (wa.alloc (.cells #[Value.slice A1 m1 c1, Value.slice A2 m2 c2, Value.slice A3 m3 c3, Value.slice (some ⟨q + 1, 0, none⟩) 32 32, Value.slice A4 m4 c4] 61)).heap.size (some ⟨wa.heap.size, 0, none⟩) 5 [⟨A1, m1, c1⟩, ⟨A2, m2, c2⟩, ⟨A3, m3, c3⟩, ⟨some ⟨q + 1, 0, none⟩, 32, 32⟩, ⟨A4, m4, c4⟩] := Sl.of_row (heap_alloc_new wa _) rfl rfl (by simp)
  have hbal := (Bel.refl wa).alloc (.cells #[Value.slice A1 m1 c1, Value.slice A2 m2 c2, Value.slice A3 m3 c3, Value.slice (some ⟨q + 1, 0, none⟩) 32 32, Value.slice A4 m4 c4] 61)
  have HBX := Lib.hid (HBZ.out.trans (HB1.out.trans (HB2.out.trans (HB3.out.trans (HB4.out.trans (ha5.trans hbal))))))
  have HROW := Lib.hid (hrows.step hbal)
  obtain ⟨p, hp⟩ : ∃ p, wa.heap.size = p := ⟨_, rfl⟩
  rw [hp] at hsl ⊢
  change wpH _ _ _ _ _ _ _ _ _ _ _ (wa.alloc (.cells #[Value.slice A1 m1 c1, Value.slice A2 m2 c2, Value.slice A3 m3 c3, Value.slice (some ⟨q + 1, 0, none⟩) 32 32, Value.slice A4 m4 c4] 61))
  generalize wa.alloc (.cells #[Value.slice A1 m1 c1, Value.slice A2 m2 c2, Value.slice A3 m3 c3, Value.slice (some ⟨q + 1, 0, none⟩) 32 32, Value.slice A4 m4 c4] 61) = wx at hsl hbal HBX HROW ⊢
  have HSX := Lib.hid hsl
  have HLEN := Lib.hid (show [rowL commitW, intL n.client, intL n.seq, hashL h, rowL ys].flatten.length ≤ 1000000 by
    have l1 := intL_le h1; have l2 := intL_le h2; have l5 := hashL_len h
    have l0 := rowL_len (l := commitW) (m := 6) (by decide) (by omega)
    have l6 := rowL_len (l := ys) (m := m) (by have := HYL.out; omega) (by omega)
    simp only [List.flatten_cons, List.flatten_nil, List.length_append, List.length_nil]
    omega)
  clear hrows hsl hbal hp hwa ha5 HS1 HS2 HS3 HS4 HM1 HM2 HM3 HM4 HB1 HB2 HB3 HB4
  refine wpH_force 13 _ rfl (by kernel_rfl) rfl fun wc hwc K hK => ?_
  have hc : Bel wx wc := hwc
  go_simp
  refine (joinD_any _ 5 5 _ _ wc (HSX.out.stepB hc) (HROW.out.step hc) (by omega) HLEN.out).mono ?_
  rintro _ wd ⟨v9, rfl, hb9⟩
  obtain ⟨A9, m9, c9, rfl, hm9, hs9⟩ := hb9.slV
  refine hK _ _ (fun _ => hb9.bel) (fun _ => Chg.of_bel hb9.bel _) ?_
  have HB9 := Lib.hid (HBX.out.trans (hc.trans hb9.bel)); have HS9 := Lib.hid hs9; have HM9 := Lib.hid hm9
  clear hK K hb9 hs9 hm9 hc hwc
  refine wpH_force 14 _ rfl (by kernel_rfl) rfl fun we hwe K hK => ?_
  have he : Bel wd we := hwe
  go_simp
  refine (sumD_any A9 m9 c9 _ we (HS9.out.stepB he) (by have := HLEN.out; have := HM9.out; omega)).mono ?_
  rintro _ wf ⟨rfl, hbf⟩
  refine hK _ _ (fun _ => hbf) (fun _ => Chg.of_bel hbf _) ?_
  have HBF := Lib.hid (HB9.out.trans (he.trans hbf))
  clear hK K hbf he hwe HS9
  rw [show sumL [rowL commitW, intL n.client, intL n.seq, hashL h, rowL ys].flatten = ofL n h ys from rfl]
  obtain ⟨O, hO⟩ : ∃ O, ofL n h ys = O := ⟨_, rfl⟩
  rw [hO]
  refine wpH_force 15 _ rfl (by kernel_rfl) rfl fun wg hwg K hK => ?_
  have hgO := GB.get (HBF.out.trans hwg) HO.out
  have hfO : blkFree wg (q + 2) = true := (blkFree_keep (Below.block (HBF.out.trans hwg) (q + 2) HQS.out)).trans HF.out
  go_simp
  have hcw : Chg (fun k => k = q + 2 ∨ ws.heap.size ≤ k) wg (World.putCells wg ⟨q + 2, 0, none⟩ (GHash.enc O)) := (chg_put (S := fun k => k = q + 2) rfl _).sub (fun k e => .inl e)
  refine hK _ _ (fun h => absurd (by simp) h) (fun _ => hcw) ?_
  have HBG := Lib.hid (show Bel w _ from Chg.bel2 (HB.out.trans (HBF.out.trans hwg)) hcw (by have h1 := HQ.out; have h2 := HQS.out; rintro k (e | e) <;> omega))
  have HGO := Lib.hid (get?_putV O hgO)
  clear hK K hgO hfO hcw hwg
  refine wpH_end (by kernel_rfl) (fun wn hwn => ?_) _
  have HGN := Lib.hid (GB.get hwn HGO.out); have HBN := Lib.hid (HBG.out.trans hwn)
  clear hwn
  go_wp2_with fail
  refine bodyPost_ret (results_cell (x := O) rfl rfl ag35 sz35 HGN.out) rfl ⟨?_, HBN.out⟩
  simp only [GHash.val_eq, hO]
end Go.Proofs.YtfhhcgldikmejaaGreatDoor
/- The struct types of this seat as Lean types, with the runs of single operations over them. Conditions: those named in each theorem. -/
namespace Go.Proofs.YtfhhcgldikmejaaGreatDoor
open Go Go.RowKit Go.Gv
set_option linter.unusedSimpArgs false

/-! ### gavel/gavelref01.Book -/
structure GRef01Book where
  l : Hdr
deriving DecidableEq
instance : Inhabited GRef01Book := ⟨⟨default⟩⟩
def GRef01Book.enc (x : GRef01Book) : List Value := [(x.l.val)]
theorem GRef01Book.enc_len (x : GRef01Book) : x.enc.length = 1 := by simp [GRef01Book.enc]
theorem GRef01Book.enc_one (x : GRef01Book) : ∀ u ∈ x.enc, u.oneCell' = true := by
  intro u hu
  simp only [GRef01Book.enc, List.mem_append, List.mem_singleton] at hu
  subst hu; rfl
theorem GRef01Book.enc_inj (x y : GRef01Book) (h : x.enc = y.enc) : x = y := by
  obtain ⟨a0⟩ := x
  obtain ⟨b0⟩ := y
  simp only [GRef01Book.enc] at h
  have e0 : a0 = b0 := Enc.inj (α := Hdr) _ _ h
  rw [e0]
instance : Enc GRef01Book where
  n := 1
  enc := GRef01Book.enc
  pos := by omega
  len := GRef01Book.enc_len
  one := GRef01Book.enc_one
  inj := GRef01Book.enc_inj
@[go_sem] theorem GRef01Book.n_eq : Enc.n GRef01Book = 1 := rfl
@[irreducible] def GRef01Book.val (x : GRef01Book) : Value := .agg x.enc.toArray
@[go_sem ↓ high] theorem xb_GRef01Book (ρ : Operand → Value) (dst : Option Tmp) (x : Operand) (ty : TypeId) (pos : String) (after : Array Edge) (guard : Option (Nat × Bool)) : execOp ρ { dst, op := .box 78 x, type := ty, pos, after, guard } = (do pure (.value (← gBox 78 (ρ x)))) := ex_box ..
section
variable (w : World)
end
theorem lk78_0 (x : GRef01Book) : x.enc[0]? = some (x.l.val) := by
  simp [GRef01Book.enc, List.getElem?_append]
theorem GRef01Book.at_l {w : World} {a : Addr} {x : GRef01Book} (h : get? GRef01Book w a = some x) : w.cell? (a.add 0) = some (x.l.val) := (get?_iff.1 h) _ _ (lk78_0 x)
/-! ### gavel/gavelref01.signed -/
structure GRef01Signed where
  by_ : Int
  text : ByteArray
deriving DecidableEq
instance : Inhabited GRef01Signed := ⟨⟨0, ByteArray.empty⟩⟩
def GRef01Signed.enc (x : GRef01Signed) : List Value := [(.int .i64 x.by_)] ++ ([(.string x.text)])
theorem GRef01Signed.enc_len (x : GRef01Signed) : x.enc.length = 2 := by simp [GRef01Signed.enc]
theorem GRef01Signed.enc_one (x : GRef01Signed) : ∀ u ∈ x.enc, u.oneCell' = true := by
  intro u hu
  simp only [GRef01Signed.enc, List.mem_append, List.mem_singleton] at hu
  rcases hu with hu | hu
  · subst hu; rfl
  · subst hu; rfl
theorem GRef01Signed.enc_inj (x y : GRef01Signed) (h : x.enc = y.enc) : x = y := by
  obtain ⟨a0, a1⟩ := x
  obtain ⟨b0, b1⟩ := y
  simp only [GRef01Signed.enc] at h
  obtain ⟨p0, q0⟩ := List.append_inj h (rfl)
  have e0 : a0 = b0 := by have := List.head_eq_of_cons_eq p0; injection this
  have e1 : a1 = b1 := by have := List.head_eq_of_cons_eq q0; injection this
  rw [e0, e1]
instance : Enc GRef01Signed where
  n := 2
  enc := GRef01Signed.enc
  pos := by omega
  len := GRef01Signed.enc_len
  one := GRef01Signed.enc_one
  inj := GRef01Signed.enc_inj
@[go_sem] theorem GRef01Signed.n_eq : Enc.n GRef01Signed = 2 := rfl
@[irreducible] def GRef01Signed.val (x : GRef01Signed) : Value := .agg x.enc.toArray
theorem GRef01Signed.val_eq (x : GRef01Signed) : GRef01Signed.val x = .agg (Enc.enc x).toArray := by unfold GRef01Signed.val; rfl
theorem uu161 : Tryz.prog.underlying 161 = some (.struct (Tryz.prog.fieldsOf 161)) := by kernel_rfl
section
variable (w : World)
end
theorem lk161_0 (x : GRef01Signed) : x.enc[0]? = some (.int .i64 x.by_) := by
  simp [GRef01Signed.enc, List.getElem?_append]
theorem lk161_1 (x : GRef01Signed) : x.enc[1]? = some (.string x.text) := by
  simp [GRef01Signed.enc, List.getElem?_append]
theorem zr161 : zeroT Tryz.prog 161 = some (.agg (GRef01Signed.enc default).toArray) := by kernel_rfl
theorem GRef01Signed.at_by_ {w : World} {a : Addr} {x : GRef01Signed} (h : get? GRef01Signed w a = some x) : w.cell? (a.add 0) = some (.int .i64 x.by_) := (get?_iff.1 h) _ _ (lk161_0 x)
theorem GRef01Signed.at_text {w : World} {a : Addr} {x : GRef01Signed} (h : get? GRef01Signed w a = some x) : w.cell? (a.add 1) = some (.string x.text) := (get?_iff.1 h) _ _ (lk161_1 x)
theorem pl161 : ((Tryz.prog.fieldsOf 161).toList.mapM fun f => (Tryz.prog.info? f.type).map fun i => (f.offset, i.size)) = some [(0, 1), (1, 1)] := by kernel_rfl
theorem fs161_0 (x : GRef01Signed) (v : Int) (rest : List (Nat × Value)) : Instr.fill (fun i => ([(0, 1), (1, 1)] : List (Nat × Nat))[i]?) x.enc.toArray ((0, (.int .i64 v)) :: rest) = Instr.fill (fun i => ([(0, 1), (1, 1)] : List (Nat × Nat))[i]?) ({ x with by_ := v } : GRef01Signed).enc.toArray rest := by
  have h := fill_seg [(0, 1), (1, 1)] 0 0 1 rfl (([] : List Value)) ([(.int .i64 x.by_)]) ([(.string x.text)] ++ (([] : List Value))) ([(.int .i64 v)]) (.int .i64 v) rest (rfl) (by simp) (by simp) (by simp)
  have e1 : x.enc = (([] : List Value)) ++ ([(.int .i64 x.by_)] ++ ([(.string x.text)] ++ (([] : List Value)))) := by simp only [GRef01Signed.enc, List.nil_append, List.append_assoc, List.append_nil]
  have e2 : ({ x with by_ := v } : GRef01Signed).enc = (([] : List Value)) ++ ([(.int .i64 v)] ++ ([(.string x.text)] ++ (([] : List Value)))) := by simp only [GRef01Signed.enc, List.nil_append, List.append_assoc, List.append_nil]
  rw [e1, e2]; exact h
theorem fs161_1 (x : GRef01Signed) (v : ByteArray) (rest : List (Nat × Value)) : Instr.fill (fun i => ([(0, 1), (1, 1)] : List (Nat × Nat))[i]?) x.enc.toArray ((1, (.string v)) :: rest) = Instr.fill (fun i => ([(0, 1), (1, 1)] : List (Nat × Nat))[i]?) ({ x with text := v } : GRef01Signed).enc.toArray rest := by
  have h := fill_seg [(0, 1), (1, 1)] 1 1 1 rfl (([] : List Value) ++ ([(.int .i64 x.by_)])) ([(.string x.text)]) (([] : List Value)) ([(.string v)]) (.string v) rest (rfl) (by simp) (by simp) (by simp)
  have e1 : x.enc = (([] : List Value) ++ ([(.int .i64 x.by_)])) ++ ([(.string x.text)] ++ (([] : List Value))) := by simp only [GRef01Signed.enc, List.nil_append, List.append_assoc, List.append_nil]
  have e2 : ({ x with text := v } : GRef01Signed).enc = (([] : List Value) ++ ([(.int .i64 x.by_)])) ++ ([(.string v)] ++ (([] : List Value))) := by simp only [GRef01Signed.enc, List.nil_append, List.append_assoc, List.append_nil]
  rw [e1, e2]; exact h
@[go_sem ↓ high] theorem xd_GRef01Signed (ρ : Operand → Value) (dst : Option Tmp) (ps : Array (Nat × Operand)) (ty : TypeId) (pos : String) (after : Array Edge) (guard : Option (Nat × Bool)) : execOp ρ { dst, op := .build 161 ps, type := ty, pos, after, guard } = (do pure (.value (← gBuild 161 (ps.map fun (i, x) => (i, ρ x))))) := ex_build ..
@[go_sem ↓ high] theorem bd161_0 (w : World) (v0 : Int) (v1 : ByteArray) : (gBuild 161 #[(0, (.int .i64 v0)), (1, (.string v1))]).run Tryz.prog w = .ok (GRef01Signed.val ⟨v0, v1⟩) w := by
  rw [GRef01Signed.val_eq]
  refine run_gBuild_of uu161 zr161 pl161 ?_ w
  show Instr.fill _ (GRef01Signed.enc default).toArray [(0, (.int .i64 v0)), (1, (.string v1))] = _
  rw [fs161_0, fs161_1]; rfl
/-! ### []gavelref01.signed -/
theorem ei76 : ElemI Tryz.prog 76 161 GRef01Signed 24 := ⟨by kernel_rfl, by kernel_rfl⟩
@[go_sem ↓ high] theorem xg_76 (ρ : Operand → Value) (dst : Option Tmp) (ps : Array (Nat × Operand)) (ty : TypeId) (pos : String) (after : Array Edge) (guard : Option (Nat × Bool)) : execOp ρ { dst, op := .buildSlice 76 1 ps, type := ty, pos, after, guard } = (do pure (.value (← gBuildSlice 76 1 (ps.map fun (i, x) => (i, ρ x))))) := ex_buildSlice ..
@[go_sem ↓ high] theorem bs_76 (w : World) (x : GRef01Signed) : (gBuildSlice 76 1 #[(0, GRef01Signed.val x)]).run Tryz.prog w = .ok (.slice (some ⟨w.heap.size, 0, none⟩) 1 1) (w.alloc (.cells (GRef01Signed.enc x).toArray 161)) := by
  rw [GRef01Signed.val_eq]; exact run_buildSlice_one ei76 (by decide) x w

end Go.Proofs.YtfhhcgldikmejaaGreatDoor
/- The document's book of signatures, one behind the other. Conditions: those named in each theorem. -/
namespace Go.Proofs.YtfhhcgldikmejaaGreatDoor
open Go Go.RowKit Go.Gv Go.Proofs

theorem gb_free' {w w' : World} {g : Nat} (hb : Bel w w') (hl : g < w.heap.size) (hf : blkFree w g = true) : blkFree w' g = true := (blkFree_keep (Below.block hb g hl)).trans hf
/-- At g lies a book of these signatures, its list of the call's own. -/
structure BookD (w0 w : World) (g : Nat) (ho : Hdr) (L : List GRef01Signed) : Prop where
  at_ : get? GRef01Book w ⟨g, 0, none⟩ = some ⟨ho⟩
  free : blkFree w g = true
  own : OwnS w w0.heap.size 161 ho.val L
  ne : ¬ ho.val.ownBlock = some g
  new : w0.heap.size ≤ g
theorem BookD.step {w0 w w' : World} {g : Nat} {ho : Hdr} {L : List GRef01Signed} (h : BookD w0 w g ho L) (hb : Bel w w') : BookD w0 w' g ho L :=
  ⟨GB.get hb h.at_, (blkFree_keep (Below.block hb _ (get?_lt h.at_))).trans h.free, h.own.step hb, h.ne, h.new⟩
theorem refBook_l (x : GRef01Book) (h : Hdr) : Enc.enc ({ x with l := h } : GRef01Book) = (Enc.enc x).set 0 (.slice h.a h.len h.cap) := by
  show GRef01Book.enc _ = (GRef01Book.enc _).set _ _
  simp [GRef01Book.enc, Hdr.val]
def SignDIs (w0 : World) (g : Nat) (ho : Hdr) (L : List GRef01Signed) (w : World) (e : Ending) (w' : World) : Prop :=
  ∃ (s : GSig) (ho' : Hdr) (L' : List GRef01Signed), e = .returned s.val ∧ BookD w0 w' g ho' L' ∧ L'.length ≤ L.length + 1 ∧ Chg (fun k => k = g ∨ ho.val.ownBlock = some k) w w' ∧ (∀ k, ho'.val.ownBlock = some k → ho.val.ownBlock = some k ∨ w.heap.size ≤ k)
set_option maxRecDepth 100000 in
set_option maxHeartbeats 4000000 in
theorem signD_any (w0 : World) (g : Nat) (ho : Hdr) (L : List GRef01Signed) (d : Int) (A : Option Addr) (n c : Nat) (ys : List U8) (w : World) (h : BookD w0 w g ho L) (hy : Sl U8 w w.heap.size A n ys) (hl : L.length ≤ 1000000) :
    Calls Tryz.prog 28 #[.pointer (some ⟨g, 0, none⟩), .int .i64 d, .slice A n c] w (SignDIs w0 g ho L w) := by
  have HL := Lib.hid hl
  have HA := Lib.hid ((Bel.refl w).alloc (.cells (GSig.enc default).toArray 37))
  have HS := Lib.hid (h.step HA.out)
  have HY := Lib.hid (hy.stepB HA.out)
  have HQ := Lib.hid (get?_new (w := w) 37 (default : GSig))
  have HF : Hid (blkFree (w.alloc (.cells (GSig.enc default).toArray 37)) w.heap.size = true) := Lib.hid (blkFree_new _ _ rfl)
  have HGL := Lib.hid (get?_lt h.at_)
  have HOB := Lib.hid (fun k (e : ho.val.ownBlock = some k) => (h.own.lt k e).2)
  clear h hy hl
  go_enter Tryz.func28, Tryz.ntmps28
  go_upto_region 1 with fail
  change Hid (get? GSig (w.alloc (.cells (GSig.enc default).toArray 37)) ⟨w.heap.size, 0, none⟩ = some default) at HQ
  generalize w.alloc (.cells (GSig.enc default).toArray 37) = wa at HA HS HY HQ HF ⊢
  obtain ⟨q, hq⟩ : ∃ q, w.heap.size = q := ⟨_, rfl⟩
  have HQE := Lib.hid hq
  rw [hq] at HQ HF HGL HOB ⊢
  clear hq
  obtain ⟨a1, n1, c1⟩ := ho
  obtain ⟨A1, C1, hv, hsl, hcc, hcm, hbl⟩ := HS.out.own.shape
  unfold Hdr.val at hv
  injection hv with v1 v2 v3
  simp only at v1 v2 v3
  subst v1 v2 v3
  have f0 : wa.cell? ⟨g, 0, none⟩ = some (.slice a1 L.length c1) := cell_zero (GRef01Book.at_l HS.out.at_)
  have HSL := Lib.hid hsl; have HBL := Lib.hid hbl
  obtain ⟨nl, hnl⟩ : ∃ nl, L.length = nl := ⟨_, rfl⟩
  have HNL := Lib.hid hnl
  clear hsl hbl hcc hcm
  rw [hnl] at f0 HSL
  have hnl2 : nl ≤ 1000000 := by rw [← hnl]; exact HL.out
  clear hnl
  go_wp2_with fail
  go_loopw [13] (fun iv wr => ∃ k : Nat, k ≤ nl ∧ iv = .int .i64 k ∧ Hid (Bel wa wr)) (fun iv _ => nl - (intOf iv).toNat)
  case atStart => exact ⟨0, by omega, rfl, Lib.hid (Bel.refl _)⟩
  case round =>
    obtain ⟨k, hk, rfl, hb⟩ := hrel
    have f0 := GB.cell hb.out f0
    by_cases hlt : k < nl
    · obtain ⟨ad, sg, hAe, _, hx, hg0⟩ := (HSL.out.stepB hb.out).at_ (k := k) hlt
      obtain ⟨_, had, _⟩ := HBL.out ad hAe
      obtain ⟨bk, hbk⟩ : ∃ bk, ad.block = bk := ⟨_, rfl⟩
      rw [hbk] at had
      subst had
      subst hAe
      have t0 := GRef01Signed.at_by_ hg0
      have t1 := GRef01Signed.at_text hg0
      rw [show Enc.n GRef01Signed = 2 from rfl] at t0 t1
      simp only [Addr.add_lit, Nat.zero_add, Nat.add_zero] at t0 t1
      obtain ⟨sb, hsb⟩ : ∃ sb, sg.by_ = sb := ⟨_, rfl⟩
      obtain ⟨st, hst⟩ : ∃ st, sg.text = st := ⟨_, rfl⟩
      rw [hsb] at t0; rw [hst] at t1
      clear hg0 hx hbk hsb hst
      go_wp2_with fail
      obtain ⟨s, hs⟩ : ∃ s, strB ys = s := ⟨_, rfl⟩
      obtain ⟨bt, hbt⟩ : ∃ bt, (st.toList == s.toList) = bt := ⟨_, rfl⟩
      by_cases hbe : sb = d
      · subst hbe
        cases bt with
        | false =>
          refine wp_region_G GB [] GB.rf (by kernel_rfl) ?_
          refine wpG_looks 0 24 [0, 1, 2, 3, 4, 5, 6, 7, 8, 9, 10, 11, 12, 13, 14, 15, 16, 17, 18, 19, 20, 21, 22] rfl GB.rf GB.tr (by kernel_rfl) (fun _ _ _ _ hd h => And.intro (hd ▸ And.left h) (And.right h)) rfl (by kernel_rfl) ?_
          intro ι W9 hne CW
          have y0 := fun z => GB.cell (CW.out z) f0
          have y1 := fun z => GB.cell (CW.out z) t0
          have y2 := fun z => GB.cell (CW.out z) t1
          have y3 := fun z => str_conv (c := c) ((HY.out.stepB hb.out).stepB (GB.undrew (CW.out z)))
          rw [hs] at y3
          repeat (refine wpLooksG_step (fun K hK => ?_); go_simp; refine hK _ ?_; clear hK K)
          refine wpLooksG_nil ?_
          clear y0 y1 y2 y3 CW hne W9 ι
          refine wpG_end (by kernel_rfl) (fun wm hwm => ?_) _
          have HB := Lib.hid (hb.out.trans (GB.undrew hwm))
          clear hwm
          go_wp2_with fail
          exact ⟨⟨k + 1, by omega, by go_num, HB⟩, by simp only [intOf]; omega⟩
        | true =>
          refine wp_region_G GB [] GB.rf (by kernel_rfl) ?_
          refine wpG_looks 0 24 [0, 1, 2, 3, 4, 5, 6, 7, 8, 9, 10, 11, 12, 13, 14, 15, 16, 17, 18, 19, 20, 21, 22] rfl GB.rf GB.tr (by kernel_rfl) (fun _ _ _ _ hd h => And.intro (hd ▸ And.left h) (And.right h)) rfl (by kernel_rfl) ?_
          intro ι W9 hne CW
          have y0 := fun z => GB.cell (CW.out z) f0
          have y1 := fun z => GB.cell (CW.out z) t0
          have y2 := fun z => GB.cell (CW.out z) t1
          have y3 := fun z => str_conv (c := c) ((HY.out.stepB hb.out).stepB (GB.undrew (CW.out z)))
          rw [hs] at y3
          repeat (refine wpLooksG_step (fun K hK => ?_); go_simp; refine hK _ ?_; clear hK K)
          refine wpLooksG_nil ?_
          clear y0 y1 y2 y3 CW hne W9 ι
          refine wpG_end (by kernel_rfl) (fun wm hwm => ?_) _
          have HB := Lib.hid (hb.out.trans (GB.undrew hwm))
          clear hwm
          have hq1 := GB.get HB.out HQ.out
          have hf1 := gb_free' HB.out (get?_lt HQ.out) HF.out
          go_wp2_with fail
          refine bodyPost_ret (results_cell (x := (⟨sb, (k : Int) + 1⟩ : GSig)) rfl rfl ag37 sz37 (get?_putV _ hq1)) rfl ⟨⟨sb, (k : Int) + 1⟩, ⟨some ⟨bk, 0, none⟩, L.length, c1⟩, L, by rw [GSig.val_eq], ?_, by omega, ?_, fun k e => .inl e⟩
          · have h1 := HS.out.step HB.out
            have hc := chg_put (S := fun k => k = q) (w := wm) (b := q) (o := 0) rfl (GSig.enc ⟨sb, (k : Int) + 1⟩)
            have hgq : ¬ g = q := by have := HGL.out; omega
            exact ⟨hc.get h1.at_ hgq, hc.free h1.free (get?_lt h1.at_) hgq, h1.own.chg hc (fun k e (e2 : k = q) => by have := HOB.out k e; omega), h1.ne, h1.new⟩
          · exact chg_after (HA.out.trans HB.out) (chg_put (S := fun k => k = q) rfl _) (by rintro k (e : k = q); right; rw [HQE.out]; omega)
      · --ne
        refine wp_region_G GB [] GB.rf (by kernel_rfl) ?_
        refine wpG_looks 0 24 [0, 1, 2, 3, 4, 5, 6, 7, 8, 9, 10, 11, 12, 13, 14, 15, 16, 17, 18, 19, 20, 21, 22] rfl GB.rf GB.tr (by kernel_rfl) (fun _ _ _ _ hd h => And.intro (hd ▸ And.left h) (And.right h)) rfl (by kernel_rfl) ?_
        intro ι W9 hne CW
        have y0 := fun z => GB.cell (CW.out z) f0
        have y1 := fun z => GB.cell (CW.out z) t0
        have y2 := fun z => GB.cell (CW.out z) t1
        have y3 := fun z => str_conv (c := c) ((HY.out.stepB hb.out).stepB (GB.undrew (CW.out z)))
        rw [hs] at y3
        repeat (refine wpLooksG_step (fun K hK => ?_); go_simp; refine hK _ ?_; clear hK K)
        refine wpLooksG_nil ?_
        clear y0 y1 y2 y3 CW hne W9 ι
        refine wpG_end (by kernel_rfl) (fun wm hwm => ?_) _
        have HB := Lib.hid (hb.out.trans (GB.undrew hwm))
        clear hwm
        go_wp2_with fail
        exact ⟨⟨k + 1, by omega, by go_num, HB⟩, by simp only [intOf]; omega⟩
    · obtain rfl : k = nl := by omega
      have HB := hb
      clear hb
      go_upto_region 7 with fail
      obtain ⟨s, hs⟩ : ∃ s, strB ys = s := ⟨_, rfl⟩
      have HS0 := Lib.hid hs
      obtain ⟨M, hM⟩ : ∃ M : GRef01Signed, ⟨d, s⟩ = M := ⟨_, rfl⟩
      have HM := Lib.hid hM
      have HR := Lib.hid (HS.out.step HB.out)
      obtain ⟨ob, hob⟩ : ∃ ob, (Hdr.val (⟨a1, L.length, c1⟩ : Hdr)).ownBlock = ob := ⟨_, rfl⟩
      have HOBE := Lib.hid hob
      have hng : ¬ ob = some g := by rw [← hob]; exact HR.out.ne
      have HNG := Lib.hid hng
      have F0 := Lib.hid f0
      clear hs hM hob hng f0
      refine wp_region_H GB (Chg (fun k => ob = some k)) [10, 13] [13] GB.rf (by kernel_rfl) ?_
      refine wpH_looks 7 16 [0, 1, 2, 3, 4, 5, 6] rfl GB.rf GB.tr (Chg.refl _) (fun _ _ _ => Chg.tr) (fun _ _ h => Chg.of_bel h _) (by kernel_rfl) (fun _ _ _ _ hd h => And.intro (hd ▸ And.left h) (And.right h)) rfl (by kernel_rfl) ?_
      intro ι W hne CW
      have k0 := fun z => (CW.out z).cell F0.out HNG.out
      repeat (refine wpLooksG_step (fun K hK => ?_); go_simp; refine hK _ ?_; clear hK K)
      refine wpLooksG_nil ?_
      clear k0 CW hne W ι
      refine wpH_force 7 _ rfl (by kernel_rfl) rfl fun w7 hw7 K hK => ?_
      have y3 := str_conv (c := c) (HY.out.stepB (HB.out.trans (GB.undrew hw7)))
      rw [HS0.out] at y3
      go_simp
      refine hK _ _ (fun _ => GB.rf _) (fun _ => Chg.refl _ _) ?_
      have H7 := Lib.hid (HB.out.trans (GB.undrew hw7))
      clear hK K hw7 y3
      refine wpH_force 8 _ rfl (by kernel_rfl) rfl fun w8 hw8 K hK => ?_
      go_simp
      rw [HM.out]
      refine hK _ _ (fun _ => GB.rf _) (fun _ => Chg.refl _ _) ?_
      have H8 := Lib.hid (H7.out.trans hw8)
      clear hK K hw8 H7
      refine wpH_force 9 _ rfl (by kernel_rfl) rfl fun w9 hw9 K hK => ?_
      go_simp
      refine hK _ _ (fun _ => GB.al _ _) (fun _ => Chg.of_bel (GB.al _ _) _) ?_
      clear hK K
      have hs : Sl GRef01Signed (w9.alloc (.cells (Enc.enc M).toArray 161)) (w9.alloc (.cells (Enc.enc M).toArray 161)).heap.size (some ⟨w9.heap.size, 0, none⟩) 1 [M] := Sl.new_ (xs := [M]) (by simp) rfl rfl (by simp)
      have hbf : Bel wa (w9.alloc (.cells (Enc.enc M).toArray 161)) := (Bel.trans H8.out hw9).trans ((Bel.refl w9).alloc (.cells (Enc.enc M).toArray 161))
      obtain ⟨p, hp⟩ : ∃ p, w9.heap.size = p := ⟨_, rfl⟩
      rw [hp] at hs ⊢
      change wpH _ _ _ _ _ _ _ _ _ _ _ (w9.alloc (.cells (Enc.enc M).toArray 161))
      generalize w9.alloc (.cells (Enc.enc M).toArray 161) = wg at hs hbf ⊢
      have HSG := Lib.hid hs; have HBF := Lib.hid hbf
      clear hs hbf hp hw9 H8
      refine wpH_force 10 _ rfl (by kernel_rfl) rfl fun w10 hw10 K hK => ?_
      have hr8 := HS.out.step (HBF.out.trans hw10)
      have hn8 := HNL.out
      obtain ⟨v', w', hrun, ho, hgr, hob⟩ := gAppend_S (P := Tryz.prog) ei76 hr8.own (HSG.out.stepB hw10) (by have := HL.out; unfold maxLen; omega) (by have := HL.out; omega) (by have h1 := hr8.new; have h2 : g < w10.heap.size := get?_lt hr8.at_; omega) 76
      change (gAppend #[76, 76] 76 #[.slice a1 L.length c1, .slice (some ⟨p, 0, none⟩) 1 1]).run Tryz.prog w10 = .ok v' w' at hrun
      rw [hn8] at hrun
      obtain ⟨A', c', rfl, _⟩ := ho.shape
      go_simp
      refine hK _ _ (fun h => absurd (by simp) h) (fun _ => Chg.of_grown hgr (fun k e => by rw [← e]; exact HOBE.out.symm)) ?_
      clear hK K
      have HW := Lib.hid (HBF.out.trans hw10); have HO := Lib.hid ho; have HGR := Lib.hid hgr; have HOB2 := Lib.hid hob
      clear ho hgr hob hw10 hr8 hrun
      refine wpH_force 11 _ rfl (by kernel_rfl) rfl fun w11 hw11 K hK => ?_
      go_simp
      refine hK _ _ (fun _ => GB.rf _) (fun _ => Chg.refl _ _) ?_
      clear hK K
      refine wpH_force 12 _ rfl (by kernel_rfl) rfl fun w12 hw12 K hK => ?_
      go_simp
      refine hK _ _ (fun _ => GB.rf _) (fun _ => Chg.refl _ _) ?_
      clear hK K
      refine wpH_force 13 _ rfl (by kernel_rfl) rfl fun w13 hw13 K hK => ?_
      have hb13 := GB.tr _ _ _ (GB.tr _ _ _ hw11 hw12) hw13
      have hc8 : Chg (fun k => ob = some k) wa w' := (Chg.of_bel HW.out _).tr (Chg.of_grown HGR.out (fun k e => by rw [← e]; exact HOBE.out.symm))
      have HC13 := Lib.hid (hc8.tr (Chg.of_bel hb13 _))
      have HO13 := Lib.hid (OwnS.step HO.out hb13)
      have hg13 := HC13.out.get HS.out.at_ HNG.out
      have hf13 := HC13.out.free HS.out.free (get?_lt HS.out.at_) HNG.out
      have f13 := cell_zero (GRef01Book.at_l hg13)
      have z13 : w13.frozen? ⟨g, 0, none⟩ = false := frozen_of_free hf13
      have HG13 := Lib.hid hg13; have HF13 := Lib.hid hf13
      clear hg13 hf13 hc8 hb13 hw11 hw12 hw13
      go_simp
      refine hK _ _ (fun h => absurd (by simp) h) (fun h => absurd (by simp) h) ?_
      clear hK K f13 z13
      have hgl : ∀ k, ob = some k → k < q := fun k e => HOB.out k (HOBE.out.trans e)
      have hgq : g < q := HGL.out
      have hsz : q ≤ w10.heap.size := by have h1 := Below.size HW.out; have h2 := Below.size HA.out; have := HQE.out; omega
      have hnq : ¬ ob = some q := fun e => by have := hgl q e; omega
      have hc14 : Chg (fun k => k = g) w13 (w13.setCell ⟨g, 0, none⟩ (.slice A' (L.length + 1) c')) := chg_cell (S := fun k => k = g) rfl _
      have hown : ∀ k, (Hdr.val ⟨A', L.length + 1, c'⟩).ownBlock = some k → ¬ k = g := fun k e (e2 : k = g) => by
        subst e2
        have e3 : (Value.slice A' (L ++ [M]).length c').ownBlock = some k := by rw [show (L ++ [M]).length = L.length + 1 by simp]; exact e
        rcases HOB2.out with e4 | e4
        · exact HNG.out (by rw [← e3, e4]; exact HOBE.out.symm)
        · rw [e4] at e3; injection e3 with e3; omega
      have HD := Lib.hid (show BookD w0 (w13.setCell ⟨g, 0, none⟩ (.slice A' (L.length + 1) c')) g ⟨A', L.length + 1, c'⟩ (L ++ [M]) from
        ⟨get?_poke HG13.out (refBook_l ⟨⟨a1, L.length, c1⟩⟩ ⟨A', L.length + 1, c'⟩), by rw [blkFree_setCell]; exact HF13.out, by
          have := HO13.out.chg hc14 (fun k e => by rw [show (L ++ [M]).length = L.length + 1 by simp] at e; exact hown k e)
          rw [show (L ++ [M]).length = L.length + 1 by simp] at this
          exact this, fun e => hown g e rfl, HS.out.new⟩)
      have HCH := Lib.hid (show Chg (fun k => k = g ∨ ob = some k) wa (w13.setCell ⟨g, 0, none⟩ (.slice A' (L.length + 1) c')) from (HC13.out.sub (fun k e => .inr e)).tr (hc14.sub (fun k e => .inl e)))
      have HNQ := Lib.hid (show ¬ (q = g ∨ ob = some q) from fun e => e.elim (fun e => by omega) hnq)
      have hql : q < w10.heap.size := by have h1 := Below.size HW.out; have h2 := get?_lt HQ.out; simp only at h2; omega
      have HOWNQ := Lib.hid (show ∀ k, (Hdr.val ⟨A', L.length + 1, c'⟩).ownBlock = some k → ¬ k = q from fun k e (e2 : k = q) => by
        subst e2
        have e3 : (Value.slice A' (L ++ [M]).length c').ownBlock = some k := by rw [show (L ++ [M]).length = L.length + 1 by simp]; exact e
        rcases HOB2.out with e4 | e4
        · exact hnq (by rw [← e3, e4]; exact HOBE.out.symm)
        · rw [e4] at e3; injection e3 with e3; omega)
      have HOLD := Lib.hid (show ∀ k, (Hdr.val ⟨A', L.length + 1, c'⟩).ownBlock = some k → ob = some k ∨ w.heap.size ≤ k from fun k e => by
        have e3 : (Value.slice A' (L ++ [M]).length c').ownBlock = some k := by rw [show (L ++ [M]).length = L.length + 1 by simp]; exact e
        rcases HOB2.out with e4 | e4
        · left; rw [← e3, e4]; exact HOBE.out.symm
        · right; rw [e4] at e3; injection e3 with e3; rw [HQE.out]; omega)
      have HLL := Lib.hid (show (L ++ [M]).length = L.length + 1 by simp)
      clear hql
      rw [HNL.out] at HD HCH HOWNQ HOLD
      generalize w13.setCell ⟨g, 0, none⟩ (.slice A' (k + 1) c') = w14 at HD HCH ⊢
      clear hgl hgq hsz hnq hc14 hown HG13 HF13 HO13 HC13 HOB2 HGR HO HW HBF
      refine wpH_end (by kernel_rfl) (fun wn hwn => ?_) _
      have HDN := Lib.hid (HD.out.step hwn)
      have HCN := Lib.hid (HCH.out.tr (Chg.of_bel hwn _))
      clear hwn HD HCH
      have g2 : wn.cell? ⟨g, 0, none⟩ = some (.slice A' (k + 1) c') := cell_zero (GRef01Book.at_l HDN.out.at_)
      have hq1 := HCN.out.get HQ.out HNQ.out
      have hf1 := HCN.out.free HF.out (get?_lt HQ.out) HNQ.out
      have HQN := Lib.hid hq1
      go_wp2_with fail
      refine bodyPost_ret (results_cell (x := (⟨d, (k : Int) + 1⟩ : GSig)) rfl rfl ag37 sz37 (get?_putV _ HQN.out)) rfl ⟨⟨d, (k : Int) + 1⟩, ⟨A', k + 1, c'⟩, L ++ [M], by rw [GSig.val_eq], ?_, by rw [HLL.out]; omega, ?_, fun k e => (HOLD.out k e).imp (fun e => HOBE.out.trans e) id⟩
      · have hc := chg_put (S := fun k => k = q) (w := wn) (b := q) (o := 0) rfl (GSig.enc ⟨d, (k : Int) + 1⟩)
        have hgq : ¬ g = q := by have := HGL.out; omega
        exact ⟨hc.get HDN.out.at_ hgq, hc.free HDN.out.free (get?_lt HDN.out.at_) hgq, HDN.out.own.chg hc HOWNQ.out, HDN.out.ne, HDN.out.new⟩
      · refine chg_after HA.out ((HCN.out.sub (S' := fun j => (j = g ∨ ob = some j) ∨ j = q) (fun j e => .inl e)).tr (chg_put (S := fun j => (j = g ∨ ob = some j) ∨ j = q) (.inr rfl) _)) ?_
        rintro j ((e | e) | e)
        · exact .inl (.inl e)
        · exact .inl (.inr (HOBE.out.trans e))
        · right; rw [HQE.out]; omega
end Go.Proofs.YtfhhcgldikmejaaGreatDoor
/- The document makes a commitment. Conditions: those named in each theorem. -/
namespace Go.Proofs.YtfhhcgldikmejaaGreatDoor
open Go Go.RowKit Go.Gv Go.Proofs

theorem commit_sig (x : GCommit) (s : GSig) : Enc.enc ({ x with sig := s } : GCommit) = setSeg (Enc.enc x) 35 (GSig.enc s) := by
  have := setSeg_mid (GSig.enc s) (GSig.enc x.sig) (x.name.enc ++ (x.hash.enc ++ [Value.int .i64 x.len])) [] (by rw [GSig.enc_len, GSig.enc_len])
  simp only [List.append_nil, List.append_assoc] at this
  rw [show (x.name.enc ++ (x.hash.enc ++ [Value.int .i64 x.len])).length = 35 by simp [GName.enc_len, GHash.enc_len]] at this
  show GCommit.enc _ = setSeg (GCommit.enc _) 35 _
  unfold GCommit.enc
  exact this.symm
def MakeDIs (w0 : World) (g : Nat) (ho : Hdr) (L : List GRef01Signed) (n : GName) (O : GHash) (m : Nat) (w : World) (e : Ending) (w' : World) : Prop :=
  ∃ (s : GSig) (ho' : Hdr) (L' : List GRef01Signed), e = .returned (GCommit.val ⟨n, O, m, s⟩) ∧ BookD w0 w' g ho' L' ∧ L'.length ≤ L.length + 1 ∧ Chg (fun k => k = g ∨ ho.val.ownBlock = some k) w w' ∧ (∀ k, ho'.val.ownBlock = some k → ho.val.ownBlock = some k ∨ w.heap.size ≤ k)
set_option maxRecDepth 100000 in
set_option maxHeartbeats 8000000 in
theorem makeD_any (w0 : World) (g : Nat) (ho : Hdr) (L : List GRef01Signed) (n : GName) (h : GHash) (A : Option Addr) (m c : Nat) (ys : List U8) (w : World) (hb : BookD w0 w g ho L) (hy : Sl U8 w w.heap.size A m ys) (hm : m ≤ 100000) (h0 : 0 ≤ n.client) (h1 : n.client ≤ 1000000) (h2 : n.seq ≤ 9223372036854775807) (hl : L.length ≤ 1000000) :
    Calls Tryz.prog 11 #[.pointer (some ⟨g, 0, none⟩), n.val, h.val, .slice A m c] w (MakeDIs w0 g ho L n (ofL n h ys) m w) := by
  have HG := Lib.hid (show get? GName (((w.alloc (.cells (GName.enc n).toArray 33)).alloc (.cells (GHash.enc h).toArray 35)).alloc (.cells (GCommit.enc default).toArray 39)) ⟨w.heap.size, 0, none⟩ = some n from get?_alloc _ (get?_alloc _ (get?_new _ _)))
  have HH := Lib.hid (show get? GHash (((w.alloc (.cells (GName.enc n).toArray 33)).alloc (.cells (GHash.enc h).toArray 35)).alloc (.cells (GCommit.enc default).toArray 39)) ⟨w.heap.size + 1, 0, none⟩ = some h by
    have := get?_new (w := w.alloc (.cells (GName.enc n).toArray 33)) 35 h
    rw [World.size_alloc] at this
    exact get?_alloc _ this)
  have HO := Lib.hid (show get? GCommit (((w.alloc (.cells (GName.enc n).toArray 33)).alloc (.cells (GHash.enc h).toArray 35)).alloc (.cells (GCommit.enc default).toArray 39)) ⟨w.heap.size + 2, 0, none⟩ = some default by
    have := get?_new (w := (w.alloc (.cells (GName.enc n).toArray 33)).alloc (.cells (GHash.enc h).toArray 35)) 39 (default : GCommit)
    rwa [World.size_alloc, World.size_alloc] at this)
  have HF := Lib.hid (show blkFree (((w.alloc (.cells (GName.enc n).toArray 33)).alloc (.cells (GHash.enc h).toArray 35)).alloc (.cells (GCommit.enc default).toArray 39)) (w.heap.size + 2) = true by
    have : blkFree (((w.alloc (.cells (GName.enc n).toArray 33)).alloc (.cells (GHash.enc h).toArray 35)).alloc (.cells (GCommit.enc default).toArray 39)) ((w.alloc (.cells (GName.enc n).toArray 33)).alloc (.cells (GHash.enc h).toArray 35)).heap.size = true := blkFree_new _ _ rfl
    rwa [World.size_alloc, World.size_alloc] at this)
  have HB := Lib.hid ((((Bel.refl w).alloc (.cells (GName.enc n).toArray 33)).alloc (.cells (GHash.enc h).toArray 35)).alloc (.cells (GCommit.enc default).toArray 39))
  have HY := Lib.hid (hy.stepB HB.out)
  have HS := Lib.hid (hb.step HB.out)
  have HGL := Lib.hid (get?_lt hb.at_)
  have HOB := Lib.hid (fun k (e : ho.val.ownBlock = some k) => (hb.own.lt k e).2)
  have HL := Lib.hid hl; have HM := Lib.hid hm; have HC0 := Lib.hid h0; have HC1 := Lib.hid h1; have HSQ := Lib.hid h2
  clear hy hb hl hm h0 h1 h2
  go_enter Tryz.func11, Tryz.ntmps11
  go_upto_region 1 with fail
  generalize ((w.alloc (.cells (GName.enc n).toArray 33)).alloc (.cells (GHash.enc h).toArray 35)).alloc (.cells (GCommit.enc default).toArray 39) = ws at HG HH HO HF HB HY HS ⊢
  obtain ⟨q, hq⟩ : ∃ q, w.heap.size = q := ⟨_, rfl⟩
  have HQ := Lib.hid hq
  rw [hq] at HG HH HO HF HGL HOB ⊢
  try rw [show q + 1 + 1 = q + 2 from rfl]
  have HQS := Lib.hid (show q + 2 < ws.heap.size from get?_lt HO.out)
  clear hq
  obtain ⟨O, hO⟩ : ∃ O, ofL n h ys = O := ⟨_, rfl⟩
  rw [hO]
  have HOO := Lib.hid hO
  clear hO
  go_cut [9] (fun gv wx => ∃ gk, gv = .pointer (some ⟨gk, 0, none⟩) ∧ Hid (Bel ws wx ∧ get? GCommit wx ⟨gk, 0, none⟩ = some ⟨n, O, m, default⟩ ∧ blkFree wx gk = true ∧ ws.heap.size ≤ gk))
  case first =>
    refine wp_region_G GB [9] GB.rf (by kernel_rfl) ?_
    refine wpG_looks 4 24 [0, 1, 2, 3, 5, 6] rfl GB.rf GB.tr (by kernel_rfl) (fun _ _ _ _ hd h => And.intro (hd ▸ And.left h) (And.right h)) rfl (by kernel_rfl) ?_
    intro ι W9 hne CW
    have y0 := fun z => GB.get (CW.out z) HG.out
    have y1 := fun z => GB.get (CW.out z) HH.out
    repeat (refine wpLooksG_step (fun K hK => ?_); go_simp; refine hK _ ?_; clear hK K)
    refine wpLooksG_nil ?_
    clear y0 y1 CW hne W9 ι
    refine wpG_two 4 8 _ _ rfl rfl (by kernel_rfl) rfl rfl (fun w4 hw4 K hK => ?_) (fun w8 hw8 K hK => ?_)
    · go_simp
      have hb4 := GB.undrew hw4
      refine (ofD_any n h A m c ys w4 (HY.out.stepB hb4) HM.out (by have := HC1.out; omega) HSQ.out).mono ?_
      rintro _ wb ⟨rfl, hbb⟩
      rw [HOO.out]
      refine hK _ _ (fun _ => hbb) ?_
      have HB4 := Lib.hid (hb4.trans hbb)
      clear hK K hb4 hw4 hbb
      refine wpG_looks 2 24 [7] rfl GB.rf GB.tr (by kernel_rfl) (fun _ _ _ _ hd h => And.intro (hd ▸ And.left h) (And.right h)) rfl (by kernel_rfl) ?_
      intro ι W9 hne CW
      refine wpLooksG_step (fun K hK => ?_); go_simp; refine hK _ ?_; clear hK K
      refine wpLooksG_nil ?_
      clear CW hne W9 ι
      refine wpG_force 8 _ rfl (by kernel_rfl) rfl fun w8 hw8 K hK => ?_
      go_simp
      refine hK _ _ (fun _ => GB.al _ _) ?_
      clear hK K
      have k8 := get?_new (w := w8) 39 (default : GCommit)
      have f8 : blkFree (w8.alloc (.cells (GCommit.enc default).toArray 39)) w8.heap.size = true := blkFree_new _ _ rfl
      have hba := HB4.out.trans (Bel.trans hw8 ((Bel.refl w8).alloc (.cells (GCommit.enc default).toArray 39)))
      have hle : ws.heap.size ≤ w8.heap.size := Below.size (HB4.out.trans hw8)
      change get? GCommit (w8.alloc (.cells (GCommit.enc default).toArray 39)) _ = _ at k8
      obtain ⟨gk, hgk⟩ : ∃ gk, w8.heap.size = gk := ⟨_, rfl⟩
      rw [hgk] at k8 f8 hle ⊢
      change wpG _ _ _ _ _ _ _ _ _ (w8.alloc (.cells (GCommit.enc default).toArray 39))
      generalize w8.alloc (.cells (GCommit.enc default).toArray 39) = wg at k8 f8 hba ⊢
      have HK7 := Lib.hid (show get? GCommit wg ⟨gk, 0, none⟩ = some default ∧ blkFree wg gk = true ∧ Bel ws wg ∧ ws.heap.size ≤ gk from ⟨k8, f8, hba, hle⟩)
      clear k8 f8 hba hle hgk hw8 HB4
      refine wpG_force 9 _ rfl (by kernel_rfl) rfl fun w9 hw9 K hK => ?_
      have k9 := GB.get hw9 HK7.out.1
      have f9 := gb_free hw9 (get?_lt HK7.out.1) HK7.out.2.1
      go_simp
      refine hK _ _ (fun h => absurd (by simp) h) ?_
      clear hK K
      have HP := Lib.hid (show Bel ws (World.putCells w9 ⟨gk, 0, none⟩ (GCommit.enc ⟨n, O, m, default⟩)) ∧ get? GCommit (World.putCells w9 ⟨gk, 0, none⟩ (GCommit.enc ⟨n, O, m, default⟩)) ⟨gk, 0, none⟩ = some ⟨n, O, m, default⟩ ∧ blkFree (World.putCells w9 ⟨gk, 0, none⟩ (GCommit.enc ⟨n, O, m, default⟩)) gk = true ∧ ws.heap.size ≤ gk from
        ⟨Chg.bel2 (HK7.out.2.2.1.trans hw9) (chg_put (S := fun k => k = gk) rfl _) (by rintro k (e : k = gk); rw [e]; exact HK7.out.2.2.2), get?_putV _ k9, free_put f9 _, HK7.out.2.2.2⟩)
      clear k9 f9 hw9 HK7
      refine wpG_end (by kernel_rfl) (fun wn hwn => ?_) _
      have HN := Lib.hid (show Bel ws wn ∧ get? GCommit wn ⟨gk, 0, none⟩ = some ⟨n, O, m, default⟩ ∧ blkFree wn gk = true ∧ ws.heap.size ≤ gk from ⟨HP.out.1.trans hwn, GB.get hwn HP.out.2.1, gb_free hwn (get?_lt HP.out.2.1) HP.out.2.2.1, HP.out.2.2.2⟩)
      clear HP hwn
      go_wp2_with fail
      go_meet
      exact ⟨gk, rfl, HN⟩
    · go_simp
      have hb8 := GB.undrew hw8
      refine hK _ _ (fun _ => GB.al _ _) ?_
      clear hK K
      have k8 := get?_new (w := w8) 39 (default : GCommit)
      have f8 : blkFree (w8.alloc (.cells (GCommit.enc default).toArray 39)) w8.heap.size = true := blkFree_new _ _ rfl
      have hba := hb8.trans ((Bel.refl w8).alloc (.cells (GCommit.enc default).toArray 39))
      have hle : ws.heap.size ≤ w8.heap.size := Below.size hb8
      change get? GCommit (w8.alloc (.cells (GCommit.enc default).toArray 39)) _ = _ at k8
      obtain ⟨gk, hgk⟩ : ∃ gk, w8.heap.size = gk := ⟨_, rfl⟩
      rw [hgk] at k8 f8 hle ⊢
      change wpG _ _ _ _ _ _ _ _ _ (w8.alloc (.cells (GCommit.enc default).toArray 39))
      generalize w8.alloc (.cells (GCommit.enc default).toArray 39) = wg at k8 f8 hba ⊢
      have HK := Lib.hid (show get? GCommit wg ⟨gk, 0, none⟩ = some default ∧ blkFree wg gk = true ∧ Bel ws wg ∧ ws.heap.size ≤ gk from ⟨k8, f8, hba, hle⟩)
      clear k8 f8 hba hle hgk hb8 hw8
      refine wpG_force 4 _ rfl (by kernel_rfl) rfl fun w4 hw4 K hK => ?_
      go_simp
      have hb4 : Bel wg w4 := hw4
      refine (ofD_any n h A m c ys w4 (HY.out.stepB (HK.out.2.2.1.trans hb4)) HM.out (by have := HC1.out; omega) HSQ.out).mono ?_
      rintro _ wb ⟨rfl, hbb⟩
      rw [HOO.out]
      refine hK _ _ (fun _ => hbb) ?_
      have HB4 := Lib.hid (hb4.trans hbb)
      clear hK K hb4 hw4 hbb
      refine wpG_force 7 _ rfl (by kernel_rfl) rfl fun w7 hw7 K hK => ?_
      go_simp
      refine hK _ _ (fun _ => GB.rf _) ?_
      clear hK K
      have k7 := GB.get (HB4.out.trans hw7) HK.out.1
      have f7 := gb_free (HB4.out.trans hw7) (get?_lt HK.out.1) HK.out.2.1
      have b7 := HK.out.2.2.1.trans (HB4.out.trans hw7)
      have HK7 := Lib.hid (show get? GCommit w7 ⟨gk, 0, none⟩ = some default ∧ blkFree w7 gk = true ∧ Bel ws w7 ∧ ws.heap.size ≤ gk from ⟨k7, f7, b7, HK.out.2.2.2⟩)
      clear HK HB4 hw7 k7 f7 b7
      refine wpG_force 9 _ rfl (by kernel_rfl) rfl fun w9 hw9 K hK => ?_
      have k9 := GB.get hw9 HK7.out.1
      have f9 := gb_free hw9 (get?_lt HK7.out.1) HK7.out.2.1
      go_simp
      refine hK _ _ (fun h => absurd (by simp) h) ?_
      clear hK K
      have HP := Lib.hid (show Bel ws (World.putCells w9 ⟨gk, 0, none⟩ (GCommit.enc ⟨n, O, m, default⟩)) ∧ get? GCommit (World.putCells w9 ⟨gk, 0, none⟩ (GCommit.enc ⟨n, O, m, default⟩)) ⟨gk, 0, none⟩ = some ⟨n, O, m, default⟩ ∧ blkFree (World.putCells w9 ⟨gk, 0, none⟩ (GCommit.enc ⟨n, O, m, default⟩)) gk = true ∧ ws.heap.size ≤ gk from
        ⟨Chg.bel2 (HK7.out.2.2.1.trans hw9) (chg_put (S := fun k => k = gk) rfl _) (by rintro k (e : k = gk); rw [e]; exact HK7.out.2.2.2), get?_putV _ k9, free_put f9 _, HK7.out.2.2.2⟩)
      clear k9 f9 hw9 HK7
      refine wpG_end (by kernel_rfl) (fun wn hwn => ?_) _
      have HN := Lib.hid (show Bel ws wn ∧ get? GCommit wn ⟨gk, 0, none⟩ = some ⟨n, O, m, default⟩ ∧ blkFree wn gk = true ∧ ws.heap.size ≤ gk from ⟨HP.out.1.trans hwn, GB.get hwn HP.out.2.1, gb_free hwn (get?_lt HP.out.2.1) HP.out.2.2.1, HP.out.2.2.2⟩)
      clear HP hwn
      go_wp2_with fail
      go_meet
      exact ⟨gk, rfl, HN⟩
  case rest =>
    obtain ⟨gk, rfl, hcf⟩ := hcut
    have HKB := Lib.hid hcf.out.1; have HKC := Lib.hid hcf.out.2.1; have HKF := Lib.hid hcf.out.2.2.1; have HKG := Lib.hid hcf.out.2.2.2
    clear hcf
    have HSW := Lib.hid (HS.out.step HKB.out)
    have HGW := Lib.hid (GB.get HKB.out HG.out); have HOW := Lib.hid (GB.get HKB.out HO.out); have HFW := Lib.hid (gb_free HKB.out (get?_lt HO.out) HF.out)
    obtain ⟨ob, hob⟩ : ∃ ob, ho.val.ownBlock = ob := ⟨_, rfl⟩
    have HOBE := Lib.hid hob
    rw [hob] at HOB
    have HNE := Lib.hid (show ∀ k, q ≤ k → ¬ (k = g ∨ ob = some k) from fun k hk e => e.elim (fun e => by have := HGL.out; simp only at this; omega) (fun e => by have := HOB.out k e; omega))
    have HKQ := Lib.hid (show q ≤ gk ∧ ¬ q = gk ∧ ¬ q + 2 = gk from ⟨by have := HKG.out; have := HQS.out; omega, by have := HKG.out; have := HQS.out; omega, by have := HKG.out; have := HQS.out; omega⟩)
    clear hob
    go_upto_region 2 with fail
    refine wp_region_H GB (Chg (fun k => k = g ∨ ob = some k)) [6, 8] [8] GB.rf (by kernel_rfl) ?_
    refine wpH_looks 4 16 [0, 1, 2, 3, 4] rfl GB.rf GB.tr (Chg.refl _) (fun _ _ _ => Chg.tr) (fun _ _ h => Chg.of_bel h _) (by kernel_rfl) (fun _ _ _ _ hd h => And.intro (hd ▸ And.left h) (And.right h)) rfl (by kernel_rfl) ?_
    intro ι W hne CW
    have k0 := GName.at_client HGW.out
    simp only [Addr.add_lit, Nat.add_zero] at k0
    have y0 := fun z => (CW.out z).cell k0 (HNE.out q (by omega))
    have y1 := fun z => (CW.out z).get HKC.out (HNE.out gk HKQ.out.1)
    have e1 : IntKind.i64.wrap (1000 + n.client) = 1000 + n.client := IntWalk.i64_in _ (by have := HC0.out; have := HC1.out; omega)
    clear k0
    repeat (refine wpLooksG_step (fun K hK => ?_); go_simp; refine hK _ ?_; clear hK K)
    refine wpLooksG_nil ?_
    clear y0 y1 e1 CW hne W ι
    refine wpH_force 5 _ rfl (by kernel_rfl) rfl fun w5 hw5 K hK => ?_
    go_simp
    have hb5 := GB.undrew hw5
    refine (commitTextD_any ⟨n, O, m, default⟩ w5 (by have := HC1.out; show n.client ≤ _; omega) HSQ.out (by show (m : Int) ≤ _; have := HM.out; omega)).mono ?_
    rintro _ wt ⟨A9, m9, c9, rfl, hm9, hs9, hb9⟩
    refine hK _ _ (fun _ => hb9) (fun _ => Chg.of_bel hb9 _) ?_
    have H5 := Lib.hid (hb5.trans hb9); have HS9 := Lib.hid hs9
    clear hK K hb5 hw5 hb9 hm9 hs9
    refine wpH_force 6 _ rfl (by kernel_rfl) rfl fun w6 hw6 K hK => ?_
    go_simp
    have hb6 : Bel wt w6 := hw6
    refine (signD_any w0 g ho L (1000 + n.client) A9 m9 c9 _ w6 (HSW.out.step (H5.out.trans hb6)) (HS9.out.stepB hb6) HL.out).mono ?_
    rintro _ wu ⟨sg, ho2, L2, rfl, hbd, hll, hch, hoo⟩
    rw [HOBE.out] at hch hoo
    refine hK _ _ (fun h => absurd (by simp) h) (fun _ => hch) ?_
    have HBD := Lib.hid hbd; have HLL := Lib.hid hll
    have HN2 := Lib.hid (show ∀ k, ho2.val.ownBlock = some k → ob = some k ∨ wt.heap.size ≤ k from fun k e => (hoo k e).imp id (fun h => by have := Below.size hb6; omega))
    have HTS := Lib.hid (show ws.heap.size ≤ wt.heap.size ∧ gk < wt.heap.size from ⟨Below.size (HKB.out.trans H5.out), by have h1 := Below.size H5.out; have h2 : gk < _ := get?_lt HKC.out; omega⟩)
    have HCH := Lib.hid ((Chg.of_bel (H5.out.trans hb6) (fun k => k = g ∨ ob = some k)).tr hch)
    clear hK K hbd hll hch hoo hb6 hw6 HS9 H5
    refine wpH_force 7 _ rfl (by kernel_rfl) rfl fun w7 hw7 K hK => ?_
    go_simp
    refine hK _ _ (fun _ => GB.rf _) (fun _ => Chg.refl _ _) ?_
    clear hK K
    refine wpH_force 8 _ rfl (by kernel_rfl) rfl fun w8 hw8 K hK => ?_
    have hb8 := GB.tr _ _ _ hw7 hw8
    have HC8 := Lib.hid (HCH.out.tr (Chg.of_bel hb8 _))
    have g8 := HC8.out.get HKC.out (HNE.out gk HKQ.out.1)
    have f8 := HC8.out.free HKF.out (get?_lt HKC.out) (HNE.out gk HKQ.out.1)
    have s8 := GCommit.at_sig g8
    simp only [Addr.add_lit, Nat.zero_add] at s8
    have HBD8 := Lib.hid (HBD.out.step hb8)
    go_simp
    refine hK _ _ (fun h => absurd (by simp) h) (fun h => absurd (by simp) h) ?_
    clear hK K
    have g9 : get? GCommit (World.putCells w8 ⟨gk, 35, none⟩ (GSig.enc sg)) ⟨gk, 0, none⟩ = some ⟨n, O, m, sg⟩ := get?_putSegV g8 (by show 35 + (GSig.enc _).length ≤ _; rw [GSig.enc_len]; decide) (commit_sig ⟨n, O, m, default⟩ sg)
    have hcp : Chg (fun k => k = gk) w8 (World.putCells w8 ⟨gk, 35, none⟩ (GSig.enc sg)) := chg_put (S := fun k => k = gk) rfl _
    have hgg : ¬ g = gk := fun e => HNE.out gk HKQ.out.1 (.inl e.symm)
    have hbn : BookD w0 (World.putCells w8 ⟨gk, 35, none⟩ (GSig.enc sg)) g ho2 L2 := ⟨hcp.get HBD8.out.at_ hgg, hcp.free HBD8.out.free (get?_lt HBD8.out.at_) hgg, HBD8.out.own.chg hcp (fun k e (e2 : k = gk) => by
      subst e2
      rcases HN2.out k e with e3 | e3
      · exact HNE.out k HKQ.out.1 (.inr e3)
      · have := HTS.out.2; omega), HBD8.out.ne, HBD8.out.new⟩
    have HG9 := Lib.hid g9; have HBN := Lib.hid hbn
    have HO9 := Lib.hid (hcp.get (HC8.out.get HOW.out (HNE.out (q + 2) (by omega))) HKQ.out.2.2)
    have HF9 := Lib.hid (hcp.free (HC8.out.free HFW.out (get?_lt HOW.out) (HNE.out (q + 2) (by omega))) (get?_lt (HC8.out.get HOW.out (HNE.out (q + 2) (by omega)))) HKQ.out.2.2)
    have HC9 := Lib.hid ((HC8.out.sub (S' := fun k => (k = g ∨ ob = some k) ∨ k = gk) (fun k e => .inl e)).tr (hcp.sub (fun k e => .inr e)))
    generalize World.putCells w8 ⟨gk, 35, none⟩ (GSig.enc sg) = w9 at HG9 HBN HO9 HF9 HC9 ⊢
    clear g8 f8 s8 g9 hcp hgg hbn hb8 hw7 hw8 HC8 HBD8 HBD HCH
    refine wpH_end (by kernel_rfl) (fun wn hwn => ?_) _
    have gn := GB.get hwn HG9.out
    have on := GB.get hwn HO9.out
    have fn := gb_free hwn (get?_lt HO9.out) HF9.out
    have HBE := Lib.hid (HBN.out.step hwn); have HCE := Lib.hid (HC9.out.tr (Chg.of_bel hwn _)); have HON := Lib.hid on
    clear hwn
    go_wp2_with fail
    have hcp : Chg (fun k => k = q + 2) wn (World.putCells wn ⟨q + 2, 0, none⟩ (GCommit.enc ⟨n, O, m, sg⟩)) := chg_put (S := fun k => k = q + 2) rfl _
    have hgq : ¬ g = q + 2 := by have h9 : g < q := HGL.out; omega
    refine bodyPost_ret (results_cell (x := (⟨n, O, m, sg⟩ : GCommit)) rfl rfl ag39 sz39 (get?_putV _ HON.out)) rfl ⟨sg, ho2, L2, by rw [GCommit.val_eq, HOO.out], ?_, HLL.out, ?_, ?_⟩
    · refine ⟨hcp.get HBE.out.at_ hgq, hcp.free HBE.out.free (get?_lt HBE.out.at_) hgq, HBE.out.own.chg hcp (fun k e (e2 : k = q + 2) => ?_), HBE.out.ne, HBE.out.new⟩
      subst e2
      rcases HN2.out _ e with e3 | e3
      · exact HNE.out (q + 2) (by omega) (.inr e3)
      · have h1 := HTS.out.1; have h2 := HQS.out; omega
    · refine chg_after (HB.out.trans HKB.out) ((HCE.out.sub (S' := fun k => ((k = g ∨ ob = some k) ∨ k = gk) ∨ k = q + 2) (fun k e => .inl e)).tr (hcp.sub (fun k e => .inr e))) ?_
      rintro k (((e | e) | e) | e)
      · exact .inl (.inl e)
      · exact .inl (.inr (HOBE.out.trans e))
      · right; rw [HQ.out]; have := HKQ.out.1; omega
      · right; rw [HQ.out]; omega
    · intro k e
      rcases HN2.out k e with e3 | e3
      · exact .inl (HOBE.out.trans e3)
      · right; rw [HQ.out]; have h1 := HTS.out.1; have h2 := HQS.out; omega
end Go.Proofs.YtfhhcgldikmejaaGreatDoor
/- The law's helper that makes a commitment's message. Conditions: those named in each theorem. -/
namespace Go.Proofs.YtfhhcgldikmejaaGreatDoor
open Go Go.RowKit Go.Gv Go.Proofs

@[go_sem ↓ high] theorem bxRefBook0 (w : World) : (gBox 78 (Value.agg #[.slice none 0 0])).run Tryz.prog w = .ok (.pointer (some ⟨w.heap.size, 0, none⟩)) (w.alloc (.cells (GRef01Book.enc default).toArray 78)) := run_gBox [.slice none 0 0] w
theorem BookD.chg {w0 w w' : World} {g : Nat} {ho : Hdr} {L : List GRef01Signed} {S : Nat → Prop} (h : BookD w0 w g ho L) (hc : Chg S w w') (hg : ¬ S g) (h2 : ∀ k, ho.val.ownBlock = some k → ¬ S k) : BookD w0 w' g ho L :=
  ⟨hc.get h.at_ hg, hc.free h.free (get?_lt h.at_) hg, h.own.chg hc h2, h.ne, h.new⟩
def keyC (n : GName) (O : GHash) (m : Nat) : GBookSigned := ⟨1000 + n.client, strB (commitText ⟨n, O, m, default⟩)⟩
def madeC (n : GName) (O : GHash) (m : Nat) (b : MBook) : GCommit := ⟨n, O, m, ⟨1000 + n.client, markOf b (keyC n O m)⟩⟩
def msgC (c : GCommit) (tq : Int) : GMsg := ⟨1, 1000 + c.name.client, tq, c, default, default, default, 0, 0, 0, default, default, default, 0, default, default, default, ByteArray.empty, default⟩
def Make1Is (wb : World) (g gb mb : Nat) (ho : Hdr) (L : List GRef01Signed) (n : GName) (O : GHash) (m : Nat) (b : MBook) (w : World) (e : Ending) (w' : World) : Prop :=
  ∃ (ho' : Hdr) (L' : List GRef01Signed), e = .returned (msgC (madeC n O m b) 2).val ∧ BookD wb w' g ho' L' ∧ L'.length ≤ L.length + 1 ∧ BookIs w' gb mb (signB b (keyC n O m)) ∧ Chg (fun k => (k = g ∨ ho.val.ownBlock = some k) ∨ k = mb) w w' ∧ (∀ k, ho'.val.ownBlock = some k → ho.val.ownBlock = some k ∨ w.heap.size ≤ k)
set_option maxRecDepth 100000 in
set_option maxHeartbeats 8000000 in
theorem make1_any (wb : World) (g gb mb p13 p4 p11 : Nat) (ho : Hdr) (L : List GRef01Signed) (n : GName) (b : MBook) (A : Option Addr) (m c : Nat) (ys : List U8) (w : World) (hb : BookD wb w g ho L) (hbk : BookIs w gb mb b) (h13 : w.cell? ⟨p13, 0, none⟩ = some (.pointer (some ⟨g, 0, none⟩))) (h4 : get? GName w ⟨p4, 0, none⟩ = some n) (h11 : w.cell? ⟨p11, 0, none⟩ = some (.pointer (some ⟨gb, 0, none⟩)))
    (hne : ∀ k, (k = g ∨ ho.val.ownBlock = some k) → k ≠ gb ∧ k ≠ mb ∧ k ≠ p4 ∧ k ≠ p11) (hgm : p4 ≠ mb ∧ p11 ≠ mb) (hy : Sl U8 w w.heap.size A m ys) (hm : m ≤ 100000) (h0 : 0 ≤ n.client) (h1 : n.client ≤ 1000000) (h2 : n.seq ≤ 9223372036854775807) (hl : L.length ≤ 1000000) (hbl : b.length ≤ 1000000) :
    Calls Tryz.prog 17 #[.slice A m c, .pointer (some ⟨p13, 0, none⟩), .pointer (some ⟨p4, 0, none⟩), .pointer (some ⟨p11, 0, none⟩)] w (Make1Is wb g gb mb ho L n (ofL n default ys) m b w) := by
  have k5 := get?_new (w := w) 70 (default : GMsg)
  have f5 : blkFree (w.alloc (.cells (GMsg.enc default).toArray 70)) w.heap.size = true := blkFree_new _ _ rfl
  have HB := Lib.hid ((Bel.refl w).alloc (.cells (GMsg.enc default).toArray 70))
  change get? GMsg (w.alloc (.cells (GMsg.enc default).toArray 70)) _ = _ at k5
  have HD := Lib.hid (hb.step HB.out); have HBK := Lib.hid (hbk.step HB.out); have H13 := Lib.hid (GB.cell HB.out h13); have H4 := Lib.hid (GB.get HB.out h4); have H11 := Lib.hid (GB.cell HB.out h11); have HY := Lib.hid (hy.stepB HB.out)
  have HNE := Lib.hid hne; have HGM := Lib.hid hgm; have HM := Lib.hid hm; have HC0 := Lib.hid h0; have HC1 := Lib.hid h1; have HS2 := Lib.hid h2; have HL := Lib.hid hl; have HBL := Lib.hid hbl
  have HLT := Lib.hid (show g < w.heap.size ∧ mb < w.heap.size ∧ (∀ k, ho.val.ownBlock = some k → k < w.heap.size) ∧ gb < w.heap.size from ⟨get?_lt hb.at_, hbk.ltm, fun k e => (hb.own.lt k e).2, hbk.ltg⟩)
  clear hb hbk h13 h4 h11 hne hgm hy hm h0 h1 h2 hl hbl
  go_enter Tryz.func17, Tryz.ntmps17
  go_upto_region 1 with fail
  generalize w.alloc (.cells (GMsg.enc default).toArray 70) = wa at k5 f5 HB HD HBK H13 H4 H11 HY ⊢
  obtain ⟨q, hq⟩ : ∃ q, w.heap.size = q := ⟨_, rfl⟩
  have HQ := Lib.hid hq
  rw [hq] at k5 f5 HLT ⊢
  have K5 := Lib.hid k5; have F5 := Lib.hid f5
  clear hq k5 f5
  have x13 := H13.out; have x4 := H4.out
  go_wp2_with fail
  refine (makeD_any wb g ho L n default A m c ys wa HD.out HY.out HM.out HC0.out HC1.out HS2.out HL.out).mono ?_
  rintro _ w1 ⟨s0, ho1, L1, rfl, hbd, hll, hch, hoo⟩
  obtain ⟨O, hO⟩ : ∃ O, ofL n default ys = O := ⟨_, rfl⟩
  rw [hO]
  have HOO := Lib.hid hO
  clear hO
  have x4 := hch.get H4.out (fun e => (HNE.out p4 e).2.2.1 rfl)
  have x11 := hch.cell H11.out (fun e => (HNE.out p11 e).2.2.2 rfl)
  have hnq : ¬ (q = g ∨ ho.val.ownBlock = some q) := fun e => e.elim (fun e => by have := HLT.out.1; omega) (fun e => by have := HLT.out.2.2.1 q e; omega)
  have K51 := Lib.hid (hch.get K5.out hnq); have F51 := Lib.hid (hch.free F5.out (get?_lt K5.out) hnq)
  have HBK1 := Lib.hid (HBK.out.chg hch (fun e => (HNE.out gb e).1 rfl) (fun e => (HNE.out mb e).2.1 rfl))
  have HD1 := Lib.hid hbd; have HLL := Lib.hid hll; have HCH := Lib.hid hch
  have HOW := Lib.hid (show ∀ k, ho1.val.ownBlock = some k → k ≠ mb ∧ (ho.val.ownBlock = some k ∨ q ≤ k) from fun k e => by
    rcases hoo k e with e2 | e2
    · exact ⟨(HNE.out k (.inr e2)).2.1, .inl e2⟩
    · have h2 := HLT.out.2.1; have h3 := Below.size HB.out; have h4 := HQ.out; exact ⟨by omega, .inr (by omega)⟩)
  have HGL1 := Lib.hid (show q < w1.heap.size from get?_lt K51.out)
  have HLP := Lib.hid (show p4 < w1.heap.size from get?_lt x4)
  have HOQ := Lib.hid (show ¬ ho1.val.ownBlock = some q from fun e => (hoo q e).elim (fun e2 => by have := HLT.out.2.2.1 q e2; omega) (fun h => by have h1 : q < wa.heap.size := get?_lt K5.out; omega))
  have HBKL := Lib.hid (show gb < q ∧ True from ⟨HLT.out.2.2.2, trivial⟩)
  clear hbd hll hch hoo hnq
  clear x13 HD HBK H13 H4 H11 HY
  have k6 := get?_new (w := w1) 39 (default : GCommit)
  have f6 : blkFree (w1.alloc (.cells (GCommit.enc default).toArray 39)) w1.heap.size = true := blkFree_new _ _ rfl
  change get? GCommit (w1.alloc (.cells (GCommit.enc default).toArray 39)) _ = _ at k6
  go_upto_region 2 with fail
  obtain ⟨y, hy⟩ : ∃ y : GCommit, ⟨n, O, m, s0⟩ = y := ⟨_, rfl⟩
  rw [hy]
  have k7 : get? GCommit (w1.alloc (.cells (GCommit.enc y).toArray 39)) ⟨w1.heap.size, 0, none⟩ = some y := get?_new (w := w1) 39 y
  have f7 : blkFree (w1.alloc (.cells (GCommit.enc y).toArray 39)) w1.heap.size = true := blkFree_new _ _ rfl
  have hbw : Bel w1 (w1.alloc (.cells (GCommit.enc y).toArray 39)) := (Bel.refl w1).alloc _
  obtain ⟨p6, hp6⟩ : ∃ p6, w1.heap.size = p6 := ⟨_, rfl⟩
  rw [hp6] at k7 f7 HGL1 ⊢
  generalize w1.alloc (.cells (GCommit.enc y).toArray 39) = w2 at k7 f7 hbw ⊢
  have HP6 := Lib.hid hp6; have K7 := Lib.hid k7; have F7 := Lib.hid f7; have HBW := Lib.hid hbw; have HYY := Lib.hid hy
  have X4 := Lib.hid (GB.get hbw x4); have X11 := Lib.hid (GB.cell hbw x11)
  have HMB := Lib.hid (show ¬ p6 = mb ∧ ¬ q = mb ∧ ¬ g = mb ∧ ¬ q = p6 from ⟨by have h1 := HBK1.out.ltm; omega, by have h1 := HLT.out.2.1; omega, (HNE.out g (.inl rfl)).2.1, by have := HGL1.out; omega⟩)
  clear k6 f6 k7 f7 hbw hp6 hy x4 x11
  refine wp_region_H GB (Chg (fun k => k = mb)) [6, 8] [8] GB.rf (by kernel_rfl) ?_
  refine wpH_looks 4 16 [0, 1, 2, 3, 4] rfl GB.rf GB.tr (Chg.refl _) (fun _ _ _ => Chg.tr) (fun _ _ h => Chg.of_bel h _) (by kernel_rfl) (fun _ _ _ _ hd h => And.intro (hd ▸ And.left h) (And.right h)) rfl (by kernel_rfl) ?_
  intro ι W hne CW
  have k0 := GName.at_client X4.out
  simp only [Addr.add_lit, Nat.add_zero] at k0
  have y0 := fun z => (CW.out z).cell k0 HGM.out.1
  have y1 := fun z => (CW.out z).get K7.out HMB.out.1
  have y2 := fun z => (CW.out z).cell X11.out HGM.out.2
  have e1 : IntKind.i64.wrap (1000 + n.client) = 1000 + n.client := IntWalk.i64_in _ (by have := HC0.out; have := HC1.out; omega)
  clear k0
  repeat (refine wpLooksG_step (fun K hK => ?_); go_simp; refine hK _ ?_; clear hK K)
  refine wpLooksG_nil ?_
  clear y0 y1 y2 e1 CW hne W ι
  have hyn : y.name = n := by rw [← HYY.out]
  have hyl : y.len = m := by rw [← HYY.out]
  have hyt : commitText y = commitText ⟨n, O, m, default⟩ := by rw [← HYY.out]; rfl
  have HYN := Lib.hid hyn; have HYT := Lib.hid hyt
  refine wpH_force 5 _ rfl (by kernel_rfl) rfl fun w5 hw5 K hK => ?_
  go_simp
  have hb5 := GB.undrew hw5
  refine (commitTextD_any y w5 (by rw [hyn]; have := HC1.out; omega) (by rw [hyn]; exact HS2.out) (by rw [hyl]; have := HM.out; omega)).mono ?_
  rintro _ wt ⟨A9, m9, c9, rfl, hm9, hs9, hb9⟩
  refine hK _ _ (fun _ => hb9) (fun _ => Chg.of_bel hb9 _) ?_
  have H5 := Lib.hid (hb5.trans hb9); have HS9 := Lib.hid hs9
  clear hK K hb5 hw5 hb9 hm9 hs9 hyn hyl hyt
  refine wpH_force 6 _ rfl (by kernel_rfl) rfl fun w6 hw6 K hK => ?_
  go_simp
  have hb6 : Bel wt w6 := hw6
  have hbk6 := HBK1.out.step (HBW.out.trans (H5.out.trans hb6))
  refine (sign_any gb mb b (1000 + n.client) A9 m9 c9 (commitText y) w6 hbk6 (HS9.out.stepB hb6) (by have := HBL.out; omega)).mono ?_
  rintro _ wu ⟨rfl, hbk, hch⟩
  rw [show (⟨1000 + n.client, strB (commitText y)⟩ : GBookSigned) = keyC n O m by rw [HYT.out]; rfl] at hbk ⊢
  obtain ⟨mk, hmk⟩ : ∃ mk, markOf b (keyC n O m) = mk := ⟨_, rfl⟩
  rw [hmk]
  have HMK := Lib.hid hmk
  refine hK _ _ (fun h => absurd (by simp) h) (fun _ => hch) ?_
  have HBKU := Lib.hid hbk
  have HCU := Lib.hid ((Chg.of_bel (H5.out.trans hb6) (fun k => k = mb)).tr hch)
  clear hK K hbk hch hbk6 hb6 hw6 HS9 H5 hmk
  refine wpH_force 7 _ rfl (by kernel_rfl) rfl fun w7 hw7 K hK => ?_
  go_simp
  refine hK _ _ (fun _ => GB.rf _) (fun _ => Chg.refl _ _) ?_
  clear hK K
  refine wpH_force 8 _ rfl (by kernel_rfl) rfl fun w8 hw8 K hK => ?_
  have hb8 := GB.tr _ _ _ hw7 hw8
  have HC8 := Lib.hid (HCU.out.tr (Chg.of_bel hb8 _))
  have g8 := HC8.out.get K7.out HMB.out.1
  have f8 := HC8.out.free F7.out (get?_lt K7.out) HMB.out.1
  have s8 := GCommit.at_sig g8
  simp only [Addr.add_lit, Nat.zero_add] at s8
  have HBK8 := Lib.hid (HBKU.out.step hb8)
  go_simp
  refine hK _ _ (fun h => absurd (by simp) h) (fun h => absurd (by simp) h) ?_
  clear hK K
  have g9 : get? GCommit (World.putCells w8 ⟨p6, 35, none⟩ (GSig.enc ⟨1000 + n.client, mk⟩)) ⟨p6, 0, none⟩ = some (madeC n O m b) := by
    have := get?_putSegV g8 (by show 35 + (GSig.enc _).length ≤ _; rw [GSig.enc_len]; decide) (commit_sig y ⟨1000 + n.client, mk⟩)
    rw [← HYY.out] at this
    unfold madeC
    rw [HMK.out]
    exact this
  have hcp : Chg (fun k => k = p6) w8 (World.putCells w8 ⟨p6, 35, none⟩ (GSig.enc ⟨1000 + n.client, mk⟩)) := chg_put (S := fun k => k = p6) rfl _
  have hbd9 := ((HD1.out.step HBW.out).chg HC8.out HMB.out.2.2.1 (fun k e => (HOW.out k e).1)).chg hcp (fun e => by have h1 : g < w1.heap.size := get?_lt HD1.out.at_; have := HP6.out; omega) (fun k e e2 => by have h1 := (HD1.out.own.lt k e).2; have := HP6.out; omega)
  have hbk9 := HBK8.out.chg hcp (fun e => by have h1 := HBK1.out.ltg; have := HP6.out; omega) (fun e => HMB.out.1 e.symm)
  have HG9 := Lib.hid g9; have HBD9 := Lib.hid hbd9; have HBK9 := Lib.hid hbk9
  have X49 := Lib.hid (hcp.get (HC8.out.get X4.out HGM.out.1) (show ¬ p4 = p6 from fun e => by have h1 : p4 < w1.heap.size := HLP.out; have := HP6.out; omega))
  have K59 := Lib.hid (hcp.get (HC8.out.get (GB.get HBW.out K51.out) HMB.out.2.1) HMB.out.2.2.2)
  have F59 := Lib.hid (hcp.free (HC8.out.free (gb_free2 HBW.out (get?_lt K51.out) F51.out) (get?_lt (GB.get HBW.out K51.out)) HMB.out.2.1) (get?_lt (HC8.out.get (GB.get HBW.out K51.out) HMB.out.2.1)) HMB.out.2.2.2)
  have HC9 := Lib.hid ((((HCH.out.tr (Chg.of_bel HBW.out _)).sub (S' := fun k => ((k = g ∨ ho.val.ownBlock = some k) ∨ k = mb) ∨ k = p6) (fun k e => .inl (.inl e))).tr (HC8.out.sub (fun k e => .inl (.inr e)))).tr (hcp.sub (fun k e => .inr e)))
  generalize World.putCells w8 ⟨p6, 35, none⟩ (GSig.enc ⟨1000 + n.client, mk⟩) = w9 at HG9 HBD9 HBK9 X49 K59 F59 HC9 ⊢
  clear g8 f8 s8 g9 hcp hbd9 hbk9 hb8 hw7 hw8 HC8 HBK8 HBKU HCU
  refine wpH_end (by kernel_rfl) (fun wn hwn => ?_) _
  have gn := GB.get hwn HG9.out
  have hk5 := GB.get hwn K59.out
  have hf5 := gb_free2 hwn (get?_lt K59.out) F59.out
  have kn := GName.at_client (GB.get hwn X49.out)
  simp only [Addr.add_lit, Nat.add_zero] at kn
  have HBE := Lib.hid (HBD9.out.step hwn); have HCE := Lib.hid (HC9.out.tr (Chg.of_bel hwn _)); have HBKE := Lib.hid (HBK9.out.step hwn); have K5N := Lib.hid hk5
  have e1 : IntKind.i64.wrap (1000 + n.client) = 1000 + n.client := IntWalk.i64_in _ (by have := HC0.out; have := HC1.out; omega)
  clear hwn
  go_wp2_with fail
  obtain ⟨M, hM⟩ : ∃ M : GMsg, ⟨1, 1000 + n.client, 2, madeC n O m b, default, default, default, 0, 0, 0, default, default, default, 0, default, default, default, ByteArray.empty, default⟩ = M := ⟨_, rfl⟩
  rw [hM]
  have hM2 : msgC (madeC n O m b) 2 = M := hM
  clear hM
  have hcp : Chg (fun k => k = q) wn (World.putCells wn ⟨q, 0, none⟩ (GMsg.enc M)) := chg_put (S := fun k => k = q) rfl _
  have hgq : ¬ g = q := by have := HLT.out.1; omega
  refine bodyPost_ret (results_cell (x := M) rfl rfl ag70 sz70 (get?_putV _ K5N.out)) rfl ⟨ho1, L1, by rw [HOO.out, hM2, GMsg.val_eq], ?_, HLL.out, ?_, ?_, ?_⟩
  · exact HBE.out.chg hcp hgq (fun k e (e2 : k = q) => by
      subst e2
      rcases (HOW.out k e).2 with e3 | e3
      · have := HLT.out.2.2.1 k e3; omega
      · exact HOQ.out e)
  · have h1 : ¬ gb = q := Nat.ne_of_lt HBKL.out.1
    have h2 : ¬ mb = q := fun e => HMB.out.2.1 e.symm
    rw [HOO.out]
    exact HBKE.out.chg hcp h1 h2
  · refine chg_after HB.out ((HCE.out.sub (S' := fun k => (((k = g ∨ ho.val.ownBlock = some k) ∨ k = mb) ∨ k = p6) ∨ k = q) (fun k e => .inl e)).tr (hcp.sub (fun k e => .inr e))) ?_
    rintro k ((e | e) | e)
    · exact .inl e
    · right; rw [HQ.out]; have := HGL1.out; omega
    · right; rw [HQ.out]; omega
  · intro k e
    rcases (HOW.out k e).2 with e3 | e3
    · exact .inl e3
    · right; rw [HQ.out]; exact e3
end Go.Proofs.YtfhhcgldikmejaaGreatDoor
/- The replica beside what the law makes. Conditions: those named in each theorem. -/
namespace Go.Proofs.YtfhhcgldikmejaaGreatDoor
open Go Go.RowKit Go.Gv Go.Proofs

theorem ownS_weak {α : Type} [Enc α] {w : World} {base base' : Nat} {e : TypeId} {v : Value} {xs : List α} (h : OwnS w base e v xs) (hb : base' ≤ base) : OwnS w base' e v xs := by
  refine ⟨h.1, ?_⟩
  rcases h.2 with h2 | ⟨g, cap, cur, e1, hb2, rest⟩
  · exact .inl h2
  · exact .inr ⟨g, cap, cur, e1, Nat.le_trans hb hb2, rest⟩
open Classical in
/-- What lies between two worlds' ends, as it stands in a third. -/
noncomputable def keepMid (a b w : World) : Nat → Option Obj := fun k => if a.heap.size ≤ k ∧ k < b.heap.size then w.heap[k]? else none
section
variable {wa w0 w w' : World} {B : Nat → Nat} {x : RSt}
theorem RepIs.weak (h : RepIs w0 w B x) (hb : Bel wa w0) (hpv : x.pv = none) : RepIs wa w B { x with kept := keepMid wa w0 w } := by
  obtain ⟨a, bm, ht, hp, h1, h2, h3, h4, h5⟩ := h.more
  have hs := Below.size hb
  refine ⟨hb.trans h.bel, fun j hj => Nat.le_trans hs (h.new j hj), h.lt, h.apart, h.book, h.st, h.tb, h.led, h.rev, h.core, h.pre, a, bm, ht, hp, h1, h2, h3, h4, ?_⟩
  refine ⟨ownS_weak h5.out hs, ownS_weak h5.timers hs, ownS_weak h5.proms hs, h5.no, h5.nt, h5.np, h5.ot, h5.tp, fun p e => ?_, fun k o e => ?_⟩
  · have e2 : x.pv = some p := e
    rw [hpv] at e2; cases e2
  · change keepMid wa w0 w k = some o at e
    unfold keepMid at e
    by_cases hk : wa.heap.size ≤ k ∧ k < w0.heap.size
    · rw [if_pos hk] at e
      exact ⟨e, fun j hj e2 => by have := h.new j hj; omega, fun e2 => by have := (h5.out.lt k e2).1; omega, fun e2 => by have := (h5.timers.lt k e2).1; omega, fun e2 => by have := (h5.proms.lt k e2).1; omega⟩
    · rw [if_neg hk] at e; cases e
theorem RepIs.lawBook {S : Nat → Prop} {b : MBook} (h : RepIs w0 w B x) (hpv : x.pv = none) (hc : Chg (fun k => S k ∨ k = B 2) w w') (hbk : BookIs w' (B 1) (B 2) b) (hS0 : ∀ k, S k → w0.heap.size ≤ k) (hS : ∀ k, S k → (x.kept k).isSome = true ∨ w.heap.size ≤ k) : RepIs w0 w' B { x with book := b, kept := keepNew x.kept w w' } := by
  obtain ⟨a, bm, ht, hp, h1, h2, h3, h4, h5⟩ := h.more
  have hk : ∀ k, (x.kept k).isSome = true → ∃ o, x.kept k = some o := fun k e => Option.isSome_iff_exists.1 e
  have n : ∀ j < 20, j ≠ 2 → ¬ (S (B j) ∨ B j = B 2) := fun j hj hne e => e.elim (fun e => (hS _ e).elim (fun e => by obtain ⟨o, e⟩ := hk _ e; exact (h5.kp _ o e).2.1 j hj rfl) (fun e => by have := h.lt j hj; omega)) (h.ne (i := 2) (by omega) j hj hne)
  have no : ∀ k, x.ho.val.ownBlock = some k → ¬ (S k ∨ k = B 2) := fun k hk2 e => e.elim (fun e => (hS _ e).elim (fun e => by obtain ⟨o, e⟩ := hk _ e; exact (h5.kp _ o e).2.2.1 hk2) (fun e => by have := (h5.out.lt k hk2).2; omega)) (fun e => h5.no 2 (by omega) (by rw [hk2, e]))
  have nt : ∀ k, ht.val.ownBlock = some k → ¬ (S k ∨ k = B 2) := fun k hk2 e => e.elim (fun e => (hS _ e).elim (fun e => by obtain ⟨o, e⟩ := hk _ e; exact (h5.kp _ o e).2.2.2.1 hk2) (fun e => by have := (h5.timers.lt k hk2).2; omega)) (fun e => h5.nt 2 (by omega) (by rw [hk2, e]))
  have np : ∀ k, hp.val.ownBlock = some k → ¬ (S k ∨ k = B 2) := fun k hk2 e => e.elim (fun e => (hS _ e).elim (fun e => by obtain ⟨o, e⟩ := hk _ e; exact (h5.kp _ o e).2.2.2.2 hk2) (fun e => by have := (h5.proms.lt k hk2).2; omega)) (fun e => h5.np 2 (by omega) (by rw [hk2, e]))
  have hbel : Bel w0 w' := Chg.bel2 h.bel hc (fun k e => e.elim (hS0 k) (fun e => e ▸ h.new 2 (by omega)))
  refine ⟨hbel, h.new, fun j hj => Nat.lt_of_lt_of_le (h.lt j hj) hc.size, h.apart, hbk, h.st.chg hc (n 3 (by omega) (by omega)) (n 4 (by omega) (by omega)), h.tb.chg hc (n 5 (by omega) (by omega)) (n 6 (by omega) (by omega)), h.led.chg hc (n 7 (by omega) (by omega)) (n 8 (by omega) (by omega)),
    h.rev.chg hc (n 9 (by omega) (by omega)) (n 10 (by omega) (by omega)), h.core.chg hc (n 12 (by omega) (by omega)) (n 13 (by omega) (by omega)) (n 18 (by omega) (by omega)) (n 14 (by omega) (by omega)) (n 16 (by omega) (by omega)) (n 17 (by omega) (by omega)), hc.map h.pre (n 19 (by omega) (by omega)),
    a, bm, ht, hp, hc.get h1 (n 0 (by omega) (by omega)), hc.free h2 (get?_lt h1) (n 0 (by omega) (by omega)), hc.get h3 (n 11 (by omega) (by omega)), hc.free h4 (get?_lt h3) (n 11 (by omega) (by omega)), ?_⟩
  refine ⟨h5.out.chg hc no, h5.timers.chg hc nt, h5.proms.chg hc np, h5.no, h5.nt, h5.np, h5.ot, h5.tp, fun p e => ?_, fun k o e => ?_⟩
  · have e2 : x.pv = some p := e
    rw [hpv] at e2; cases e2
  · change keepNew x.kept w w' k = some o at e
    unfold keepNew at e
    by_cases hk2 : (x.kept k).isSome = true ∨ w.heap.size ≤ k
    · rw [if_pos hk2] at e
      refine ⟨e, ?_⟩
      rcases hk2 with hk2 | hk2
      · obtain ⟨o2, e2⟩ := hk _ hk2
        exact (h5.kp k o2 e2).2
      · exact ⟨fun j hj e2 => by have := h.lt j hj; omega, fun e2 => by have := (h5.out.lt k e2).2; omega, fun e2 => by have := (h5.timers.lt k e2).2; omega, fun e2 => by have := (h5.proms.lt k e2).2; omega⟩
    · rw [if_neg hk2] at e; cases e
/-- That block is kept as it stands. -/
def Has (x : RSt) (w : World) (k : Nat) : Prop := x.kept k = w.heap[k]? ∧ k < w.heap.size
theorem Has.some {k : Nat} (h : Has x w k) : ∃ o, x.kept k = Option.some o := by
  rw [h.1]; exact ⟨_, Array.getElem?_eq_getElem h.2⟩
theorem RepIs.kpt (h : RepIs w0 w B x) {k : Nat} {o : Obj} (e : x.kept k = Option.some o) : w.heap[k]? = Option.some o := by
  obtain ⟨_, _, _, _, _, _, _, _, h5⟩ := h.more
  exact (h5.kp k o e).1
theorem RepIs.kne (h : RepIs w0 w B x) {k : Nat} {o : Obj} (e : x.kept k = Option.some o) (j : Nat) (hj : j < 20) : k ≠ B j := by
  obtain ⟨_, _, _, _, _, _, _, _, h5⟩ := h.more
  exact (h5.kp k o e).2.1 j hj
/-- A replica's step keeps what is kept. -/
theorem Has.go {y : RSt} {k : Nat} (h : Has x w k) (hr : RepIs w0 w' B y) (hk : y.kept k = x.kept k) : Has y w' k ∧ w'.heap[k]? = w.heap[k]? := by
  obtain ⟨o, e⟩ := h.some
  have e2 := hr.kpt (hk.trans e)
  exact ⟨⟨by rw [hk, e, e2], some_lt e2⟩, by rw [e2, ← e, h.1]⟩
theorem keepNew_at {K : Nat → Option Obj} {k : Nat} (h : (K k).isSome = true ∨ w.heap.size ≤ k) : keepNew K w w' k = w'.heap[k]? := by unfold keepNew; rw [if_pos h]
/-- These blocks are kept as they stand. -/
def Keeps (x : RSt) (w : World) (R : Nat → Prop) : Prop := ∀ k, R k → Has x w k
theorem Keeps.go {y : RSt} {R : Nat → Prop} (h : Keeps x w R) (hr : RepIs w0 w' B y) (hk : ∀ k o, x.kept k = Option.some o → y.kept k = Option.some o) : Keeps y w' R ∧ (∀ k, R k → w'.heap[k]? = w.heap[k]?) := by
  have key : ∀ k, R k → Has y w' k ∧ w'.heap[k]? = w.heap[k]? := fun k hR => by
    obtain ⟨o, e⟩ := (h k hR).some
    have e1 := hk k o e
    have e2 := hr.kpt e1
    exact ⟨⟨by rw [e1, e2], some_lt e2⟩, by rw [e2, ← e, (h k hR).1]⟩
  exact ⟨fun k hR => (key k hR).1, fun k hR => (key k hR).2⟩
theorem Keeps.chg {y : RSt} {R : Nat → Prop} (h : Keeps x w R) (hb : Bel w0 w) (hr : RepIs w0 w' B y) (hk : ∀ k o, x.kept k = Option.some o → y.kept k = Option.some o) (hl : R (w.heap.size - 1)) (h0 : 0 < w.heap.size) : Chg (fun k => ¬ R k) w w' := by
  obtain ⟨k1, k2⟩ := h.go hr hk
  have hlt := (k1 _ hl).2
  have hb2 := hr.bel
  have a1 := Below.os hb; have a2 := Below.tape hb; have a3 := Below.output hb
  have b1 := Below.os hb2; have b2 := Below.tape hb2; have b3 := Below.output hb2
  exact ⟨b1.trans a1.symm, b2.trans a2.symm, b3.trans a3.symm, by omega, fun k _ hR => k2 k (Classical.byContradiction fun e => hR e)⟩
theorem Keeps.law {R : Nat → Prop} {y : RSt} (h : Keeps x w R) (hs : w.heap.size ≤ w'.heap.size) (hy : y.kept = keepNew x.kept w w') : Keeps y w' (fun k => R k ∨ (w.heap.size ≤ k ∧ k < w'.heap.size)) := by
  intro k hk
  refine ⟨?_, ?_⟩
  · rw [hy]
    refine keepNew_at ?_
    rcases hk with hk | hk
    · left; obtain ⟨o, e⟩ := (h k hk).some; rw [e]; rfl
    · exact .inr hk.1
  · rcases hk with hk | hk
    · exact Nat.lt_of_lt_of_le (h k hk).2 hs
    · exact hk.2
end
end Go.Proofs.YtfhhcgldikmejaaGreatDoor
/- A commitment is given, again, and not: what the replica says. Conditions: those named in each theorem. -/
namespace Go.Proofs.YtfhhcgldikmejaaGreatDoor
open Go Go.RowKit Go.Gv Go.Proofs

/-- A replica of four, the third one, three clients, started, nothing to say. -/
structure CalmS (x : RSt) (n : Nat) : Prop where
  st : x.started = true
  ho : x.ho = nilH
  out : x.out = []
  c : x.c = ⟨1, 3⟩
  id : x.id = 2
  now : x.now = (n : Int)
  n0 : 1 ≤ n
  n1 : n ≤ 1000000
  bl : x.book.length ≤ 1000
  pv : x.pv = none
  fl : x.floor = 0
  tm : x.timers = [⟨10, ⟨1, 0⟩⟩]
theorem doGiveS_any (w0 : World) (B : Nat → Nat) (x : RSt) (n tm : Nat) (c : GCommit) (w : World) (h : RepIs w0 w B x) (hx : CalmS x n) (hok : OkCommit x.c c) (hby : c.sig.by_ = 1000 + c.name.client) (hr : rightB x.book ⟨c.sig.by_, strB (commitText c)⟩ c.sig.mark = true) (hlk : mget x.stamps c.name = none) (hl0 : x.last = 0) (htm : (tm : Int) = max x.now 1) :
    Calls Tryz.prog 8 #[.pointer (some ⟨B 0, 0, none⟩), (⟨0, msgC c 2⟩ : GReplicaEvent).val] w fun e w' => ∃ (hd : Hdr) (K : Nat → Option Obj), e = .returned (.slice hd.a hd.len hd.cap) ∧ RepIs w0 w' B { gave x c tm with ho := nilH, out := [], kept := K } ∧ OwnS w' w0.heap.size 70 hd.val [sent 2 (1000 + c.name.client) (stampMsg (stampY 2 c tm (markOf x.book (keyS 2 c tm))))] ∧ (∀ k, hd.val.ownBlock = some k → K k = w'.heap[k]?) ∧ (∀ k o, x.kept k = some o → K k = some o) := by
  refine (doMsgK_any w0 B x { gave x c tm with out := [sent 2 (1000 + c.name.client) (stampMsg (stampY 2 c tm (markOf x.book (keyS 2 c tm))))] } (msgC c 2) (onlyCommit (msgC c 2)) 0 w h hx.st rfl hx.id.symm (fun w1 => only1_any _ w1 rfl) (fun w1 hr1 => ?_)).mono (fun e w' hh => hh)
  refine take1_any w0 B x _ _ w1 hr1 rfl (fun w2 hr2 => ?_)
  have hn := hx.now; have hn1 := hx.n1; have hbl := hx.bl; have hf := hx.fl
  refine (commitGive_any w0 B x (onlyCommit (msgC c 2)) tm rfl hok hby hr hlk (by omega) (by omega) (by omega) (by omega) (by omega) (by omega) (by rw [hx.id]; omega) (by omega) (by rw [hf, hl0]; omega) (by rw [hx.out]; simp) w2 hr2).mono ?_
  rintro e w' ⟨rfl, ho, hr⟩
  refine ⟨rfl, ho, ?_⟩
  rw [hx.out, hx.id] at hr
  exact hr
theorem doAgainS_any (w0 : World) (B : Nat → Nat) (x : RSt) (n : Nat) (c : GCommit) (y : GStamp) (w : World) (h : RepIs w0 w B x) (hx : CalmS x n) (hok : OkCommit x.c c) (hby : c.sig.by_ = 1000 + c.name.client) (hr : rightB x.book ⟨c.sig.by_, strB (commitText c)⟩ c.sig.mark = true) (hlk : mget x.stamps c.name = some y) (hyh : y.hash = c.hash) :
    Calls Tryz.prog 8 #[.pointer (some ⟨B 0, 0, none⟩), (⟨0, msgC c 2⟩ : GReplicaEvent).val] w fun e w' => ∃ (hd : Hdr) (K : Nat → Option Obj), e = .returned (.slice hd.a hd.len hd.cap) ∧ RepIs w0 w' B { x with ho := nilH, out := [], kept := K } ∧ OwnS w' w0.heap.size 70 hd.val [sent 2 (1000 + c.name.client) (stampMsg y)] ∧ (∀ k, hd.val.ownBlock = some k → K k = w'.heap[k]?) ∧ (∀ k o, x.kept k = some o → K k = some o) := by
  refine (doMsgK_any w0 B x { x with out := [sent x.id (1000 + c.name.client) (stampMsg y)] } (msgC c 2) (onlyCommit (msgC c 2)) 0 w h hx.st rfl hx.id.symm (fun w1 => only1_any _ w1 rfl) (fun w1 hr1 => ?_)).mono (fun e w' ⟨hd, K, h1, h2, h3, h4⟩ => ⟨hd, K, h1, h2, by have h5 : OwnS w' w0.heap.size 70 hd.val [sent x.id (1000 + c.name.client) (stampMsg y)] := h3; rw [hx.id] at h5; exact h5, h4⟩)
  refine take1_any w0 B x _ _ w1 hr1 rfl (fun w2 hr2 => ?_)
  refine (commitAgain_any w0 B x (onlyCommit (msgC c 2)) y rfl hok.c0 hok.c2 (by rw [hx.out]; simp) (fun w3 hr3 => stampAgain_any (B 3) (B 4) (B 1) (B 2) x.c x.id x.now x.floor x.last x.stamps x.book c w3 hr3.st hr3.book hok hby hr y hlk hyh) w2 hr2).mono ?_
  rintro e w' ⟨rfl, ho, hr⟩
  refine ⟨rfl, ho, ?_⟩
  rw [hx.out] at hr
  exact hr
theorem doBadS_any (w0 : World) (B : Nat → Nat) (x : RSt) (n : Nat) (c : GCommit) (w : World) (h : RepIs w0 w B x) (hx : CalmS x n) (hok : OkCommit x.c c) (hby : c.sig.by_ = 1000 + c.name.client) (hr : rightB x.book ⟨c.sig.by_, strB (commitText c)⟩ c.sig.mark = false) :
    Calls Tryz.prog 8 #[.pointer (some ⟨B 0, 0, none⟩), (⟨0, msgC c 2⟩ : GReplicaEvent).val] w fun e w' => e = .returned (.slice none 0 0) ∧ RepIs w0 w' B x ∧ Chg (fun k => k = B 0) w w' := by
  refine doMsgQ_any w0 B x (msgC c 2) (onlyCommit (msgC c 2)) 0 w h hx.st hx.ho hx.out rfl hx.id.symm (fun w1 => only1_any _ w1 rfl) (fun w1 hr1 => ?_)
  refine take1Q_any w0 B x _ w1 hr1 rfl (fun w2 hr2 => ?_)
  exact commitNone_any w0 B x (onlyCommit (msgC c 2)) default 3 rfl hok.c0 hok.c2 (by omega) (fun w3 hr3 => stampNo_any (B 3) (B 4) (B 1) (B 2) x.c x.id x.now x.floor x.last x.stamps x.book c w3 hr3.st hr3.book hok hby hr) w2 hr2
theorem doOtherS_any (w0 : World) (B : Nat → Nat) (x : RSt) (n : Nat) (c : GCommit) (y : GStamp) (w : World) (h : RepIs w0 w B x) (hx : CalmS x n) (hok : OkCommit x.c c) (hby : c.sig.by_ = 1000 + c.name.client) (hr : rightB x.book ⟨c.sig.by_, strB (commitText c)⟩ c.sig.mark = true) (hlk : mget x.stamps c.name = some y) (hyh : ¬ y.hash = c.hash) :
    Calls Tryz.prog 8 #[.pointer (some ⟨B 0, 0, none⟩), (⟨0, msgC c 2⟩ : GReplicaEvent).val] w fun e w' => e = .returned (.slice none 0 0) ∧ RepIs w0 w' B x ∧ Chg (fun k => k = B 0) w w' := by
  refine doMsgQ_any w0 B x (msgC c 2) (onlyCommit (msgC c 2)) 0 w h hx.st hx.ho hx.out rfl hx.id.symm (fun w1 => only1_any _ w1 rfl) (fun w1 hr1 => ?_)
  refine take1Q_any w0 B x _ w1 hr1 rfl (fun w2 hr2 => ?_)
  exact commitNone_any w0 B x (onlyCommit (msgC c 2)) default 5 rfl hok.c0 hok.c2 (by omega) (fun w3 hr3 => stampOther_any (B 3) (B 4) (B 1) (B 2) x.c x.id x.now x.floor x.last x.stamps x.book c w3 hr3.st hr3.book hok hby hr y hlk hyh) w2 hr2
theorem doFarS_any (w0 : World) (B : Nat → Nat) (x : RSt) (n : Nat) (c : GCommit) (fr : Int) (w : World) (h : RepIs w0 w B x) (hx : CalmS x n) (hf : ¬ fr = 1000 + c.name.client) (h0 : 0 ≤ c.name.client) (h1 : c.name.client ≤ 1000000) :
    Calls Tryz.prog 8 #[.pointer (some ⟨B 0, 0, none⟩), (⟨0, { msgC c 2 with from_ := fr }⟩ : GReplicaEvent).val] w fun e w' => e = .returned (.slice none 0 0) ∧ RepIs w0 w' B x ∧ Chg (fun k => k = B 0) w w' := by
  refine doMsgQ_any w0 B x { msgC c 2 with from_ := fr } (onlyCommit { msgC c 2 with from_ := fr }) 0 w h hx.st hx.ho hx.out rfl hx.id.symm (fun w1 => only1_any _ w1 rfl) (fun w1 hr1 => ?_)
  refine take1Q_any w0 B x _ w1 hr1 rfl (fun w2 hr2 => ?_)
  exact commitFrom_any w0 B x (onlyCommit { msgC c 2 with from_ := fr }) hf h0 h1 w2 hr2
end Go.Proofs.YtfhhcgldikmejaaGreatDoor
/- Several operations ready at once; new messages in memory. Conditions: those named in each theorem. -/
namespace Go.Gv
open Go Go.RowKit
theorem wpH_list {P : Program} {md : Region.Mode} {Q : Exit → Act → World → Prop} {G G2 : World → World → Prop} {T U : List Nat} {l : List Oper} {fuel : Nat} {listed : Array Bool} {a : Act} {w : World} (ts : List Nat) (hne : ts ≠ []) (hr : (Region.ready md l.toArray listed == ts) = true)
    (h : ∀ t ∈ ts, ∃ o, nthO l t = some o ∧ o.guard = none ∧ ∀ w', G w w' → ∀ K : Act → World → Prop, (∀ a' w'', (t ∉ T → G w' w'') → (t ∉ U → G2 w' w'') → wpH P md l.toArray Q G G2 T U fuel (listed.setIfInBounds t true) a' w'' → K a' w'') → o.wp P a w' K Q) : wpH P md l.toArray Q G G2 T U (fuel + 1) listed a w := by
  have hr' : Region.ready md l.toArray listed = ts := by simpa using hr
  refine ⟨fun h0 => (by rw [hr'] at h0; cases ts with | nil => exact absurd rfl hne | cons a l => cases h0), fun i hi w' hw' => ?_⟩
  rw [hr'] at hi
  obtain ⟨o, ho, hg, hw⟩ := h i hi
  have ho1 : l.toArray[i]? = some o := by rw [← ho, nthO_eq]; simp
  unfold Go.wpOp
  simp only [ho1]
  rw [if_pos (by simp [Region.wanted, hg])]
  exact .inl (hw w' hw' _ fun a' w'' k1 k2 k3 => ⟨k1, k2, k3⟩)
end Go.Gv
namespace Go.Proofs.YtfhhcgldikmejaaGreatDoor
open Go Go.RowKit Go.Gv Go.Proofs

/-- A new message at p. -/
structure AlM (w0 w : World) (p : Nat) (m : GMsg) : Prop where
  k : get? GMsg w ⟨p, 0, none⟩ = some m
  f : blkFree w p = true
  ge : w0.heap.size ≤ p
section
variable {w0 w w' : World} {p : Nat} {m : GMsg}
theorem AlM.step (h : AlM w0 w p m) (hb : Bel w w') : AlM w0 w' p m := ⟨GB.get hb h.k, gb_free2 hb (get?_lt h.k) h.f, h.ge⟩
theorem AlM.chg {S : Nat → Prop} (h : AlM w0 w p m) (hc : Chg S w w') (hn : ¬ S p) : AlM w0 w' p m := ⟨hc.get h.k hn, hc.free h.f (get?_lt h.k) hn, h.ge⟩
theorem AlM.put (h : AlM w0 w p m) (m' : GMsg) : AlM w0 (World.putCells w ⟨p, 0, none⟩ (GMsg.enc m')) p m' := ⟨get?_putV m' h.k, free_put2 h.f _, h.ge⟩
theorem AlM.lt (h : AlM w0 w p m) : p < w.heap.size := get?_lt h.k
theorem AlM.new (hs : w0.heap.size ≤ w.heap.size) : AlM w0 (w.alloc (.cells (GMsg.enc default).toArray 70)) w.heap.size default :=
  ⟨get?_new (w := w) 70 (default : GMsg), blkFree_new _ _ rfl, hs⟩
end
end Go.Proofs.YtfhhcgldikmejaaGreatDoor
/- Three new messages beside what has changed. Conditions: those named in each theorem. -/
namespace Go.Proofs.YtfhhcgldikmejaaGreatDoor
open Go Go.RowKit Go.Gv Go.Proofs

/-- Three new messages, a book, and what has changed. -/
structure St3 (w0 w : World) (S : Nat → Prop) (pa pb pc : Nat) (ma mb mc : GMsg) (gk mk : Nat) (bk : MBook) : Prop where
  a : AlM w0 w pa ma
  b : AlM w0 w pb mb
  c : AlM w0 w pc mc
  ch : Chg (fun k => S k ∨ w0.heap.size ≤ k) w0 w
  k : BookIs w gk mk bk
  n1 : ¬ pa = pb
  n2 : ¬ pa = pc
  n3 : ¬ pb = pc
  l1 : gk < w0.heap.size
  l2 : mk < w0.heap.size
section
variable {w0 w w' : World} {S : Nat → Prop} {pa pb pc gk mk : Nat} {ma mb mc : GMsg} {bk : MBook}
theorem St3.step (h : St3 w0 w S pa pb pc ma mb mc gk mk bk) (hb : Bel w w') : St3 w0 w' S pa pb pc ma mb mc gk mk bk :=
  ⟨h.a.step hb, h.b.step hb, h.c.step hb, h.ch.tr (Chg.of_bel hb _), h.k.step hb, h.n1, h.n2, h.n3, h.l1, h.l2⟩
theorem St3.chA (h : St3 w0 w S pa pb pc ma mb mc gk mk bk) (m' : GMsg) : Chg (fun k => S k ∨ w0.heap.size ≤ k) w (World.putCells w ⟨pa, 0, none⟩ (GMsg.enc m')) := (chg_put (S := fun k => k = pa) rfl _).sub (fun k e => .inr (by rw [e]; exact h.a.ge))
theorem St3.putA (h : St3 w0 w S pa pb pc ma mb mc gk mk bk) (m' : GMsg) : St3 w0 (World.putCells w ⟨pa, 0, none⟩ (GMsg.enc m')) S pa pb pc m' mb mc gk mk bk := by
  have hc : Chg (fun k => k = pa) w (World.putCells w ⟨pa, 0, none⟩ (GMsg.enc m')) := chg_put (S := fun k => k = pa) rfl _
  have hg := h.a.ge; have h1 := h.l1; have h2 := h.l2
  exact ⟨h.a.put m', h.b.chg hc (fun e => h.n1 e.symm), h.c.chg hc (fun e => h.n2 e.symm), h.ch.tr (h.chA m'), h.k.chg hc (by omega) (by omega), h.n1, h.n2, h.n3, h.l1, h.l2⟩
theorem St3.chB (h : St3 w0 w S pa pb pc ma mb mc gk mk bk) (m' : GMsg) : Chg (fun k => S k ∨ w0.heap.size ≤ k) w (World.putCells w ⟨pb, 0, none⟩ (GMsg.enc m')) := (chg_put (S := fun k => k = pb) rfl _).sub (fun k e => .inr (by rw [e]; exact h.b.ge))
theorem St3.putB (h : St3 w0 w S pa pb pc ma mb mc gk mk bk) (m' : GMsg) : St3 w0 (World.putCells w ⟨pb, 0, none⟩ (GMsg.enc m')) S pa pb pc ma m' mc gk mk bk := by
  have hc : Chg (fun k => k = pb) w (World.putCells w ⟨pb, 0, none⟩ (GMsg.enc m')) := chg_put (S := fun k => k = pb) rfl _
  have hg := h.b.ge; have h1 := h.l1; have h2 := h.l2
  exact ⟨h.a.chg hc h.n1, h.b.put m', h.c.chg hc (fun e => h.n3 e.symm), h.ch.tr (h.chB m'), h.k.chg hc (by omega) (by omega), h.n1, h.n2, h.n3, h.l1, h.l2⟩
theorem St3.chC (h : St3 w0 w S pa pb pc ma mb mc gk mk bk) (m' : GMsg) : Chg (fun k => S k ∨ w0.heap.size ≤ k) w (World.putCells w ⟨pc, 0, none⟩ (GMsg.enc m')) := (chg_put (S := fun k => k = pc) rfl _).sub (fun k e => .inr (by rw [e]; exact h.c.ge))
theorem St3.putC (h : St3 w0 w S pa pb pc ma mb mc gk mk bk) (m' : GMsg) : St3 w0 (World.putCells w ⟨pc, 0, none⟩ (GMsg.enc m')) S pa pb pc ma mb m' gk mk bk := by
  have hc : Chg (fun k => k = pc) w (World.putCells w ⟨pc, 0, none⟩ (GMsg.enc m')) := chg_put (S := fun k => k = pc) rfl _
  have hg := h.c.ge; have h1 := h.l1; have h2 := h.l2
  exact ⟨h.a.chg hc h.n2, h.b.chg hc h.n3, h.c.put m', h.ch.tr (h.chC m'), h.k.chg hc (by omega) (by omega), h.n1, h.n2, h.n3, h.l1, h.l2⟩
end
end Go.Proofs.YtfhhcgldikmejaaGreatDoor
