/- AuctionMany returns true, walked. Conditions: those named in each theorem. -/
import Derived.Test.YteockodnfempfaaP21
import Derived.Deep.CutBlock
import Derived.Test.YteockodnfempfaaP6
/- The close of the auction of a name of two letters. Conditions: those named in each theorem. -/
namespace Go.Proofs.Yteockodnfempfaa
open Go Go.RowKit Go.Gv Go.Sort

theorem nmB_size (i : Nat) : (nmB i).size = 2 := rfl
theorem nmB_0 {i : Nat} (hi : i < 100) : ((nmB i)[0]'(by rw [nmB_size]; omega)).toNat = 97 + i / 26 := by
  show (UInt8.ofNat (97 + i / 26)).toNat = _
  rw [UInt8.toNat_ofNat']
  omega
theorem nmB_1 {i : Nat} (hi : i < 100) : ((nmB i)[1]'(by rw [nmB_size]; omega)).toNat = 97 + i % 26 := by
  show (UInt8.ofNat (97 + i % 26)).toNat = _
  rw [UInt8.toNat_ofNat']
  omega
set_option maxRecDepth 100000 in
set_option maxHeartbeats 1000000 in
theorem at_two (A : Option Addr) (n c : Nat) (cs : List U64) (s : ByteArray) (i a b : Nat) (x : U64) (w : World) (hcs : Sl U64 w w.heap.size A n cs) (hx : cs[i]? = some x) (hs : s.size = 2) (h0 : (s[0]'(by omega)).toNat = 97 + a) (h1 : (s[1]'(by omega)).toNat = 97 + b) (hi : i = 26 * a + b) (hb : b < 26) (hi2 : i < 100) :
    Calls Try.prog 64 #[.slice A n c, .string s] w fun e w' => e = .returned (.int .u64 x.v) ∧ ∃ q, w' = w.drewN q := by
  have hin : i < n := by have := (List.getElem?_eq_some_iff.1 hx).1; have := hcs.1; omega
  obtain ⟨ad, y, rfl, _, hy, hgy⟩ := hcs.at_ (k := i) hin
  rw [hx] at hy
  injection hy with hy
  subst hy
  obtain ⟨c0, hc0⟩ : ∃ c, s[0]'(by omega) = c := ⟨_, rfl⟩
  obtain ⟨c1, hc1⟩ : ∃ c, s[1]'(by omega) = c := ⟨_, rfl⟩
  rw [hc0] at h0
  rw [hc1] at h1
  clear hx hcs
  have e0 : IntKind.i64.wrap (97 + (a : Int)) = 97 + a := IntWalk.i64_in _ (by omega)
  have e1 : IntKind.i64.wrap (97 + (a : Int) - 97) = a := by rw [show 97 + (a : Int) - 97 = a from by omega]; exact IntWalk.i64_in _ (by omega)
  have e1' : IntKind.i64.wrap (a : Int) = a := IntWalk.i64_in _ (by omega)
  have e2 : IntKind.i64.wrap ((a : Int) * 26) = (a : Int) * 26 := IntWalk.i64_in _ (by omega)
  have e3 : IntKind.i64.wrap (97 + (b : Int)) = 97 + b := IntWalk.i64_in _ (by omega)
  have e4 : IntKind.i64.wrap ((a : Int) * 26 + (97 + (b : Int))) = (i : Int) + 97 := by rw [IntWalk.i64_in _ (by omega)]; omega
  have e5 : IntKind.i64.wrap ((i : Int) + 97 - 97) = i := by rw [show (i : Int) + 97 - 97 = i from by omega]; exact IntWalk.i64_in _ (by omega)
  have e5' : IntKind.i64.wrap (i : Int) = i := IntWalk.i64_in _ (by omega)
  simp only [show Enc.n U64 = 1 from rfl, Nat.mul_one] at hgy
  have hgy2 : ∀ q, (w.drewN q).cell? (ad.add i) = some (.int .u64 x.v) := fun _ => getU hgy
  clear hgy hi
  have hi0 : (0 : Int) ≤ (i : Int) := by omega
  have hin2 : (i : Int) < (n : Int) := by omega
  go_enter Try.func64, Try.ntmps64
  go_wp2_with fail
  go_big_quiet (fail)
  clear e0 e1 e1' e2 e3 e4 e5 e5'
  go_wp2_with fail
  go_ret
  exact ⟨rfl, _, rfl⟩
theorem at_any (A : Option Addr) (n c : Nat) (cs : List U64) (i : Nat) (x : U64) (w : World) (hcs : Sl U64 w w.heap.size A n cs) (hx : cs[i]? = some x) (hi : i < 100) :
    Calls Try.prog 64 #[.slice A n c, .string (nmB i)] w fun e w' => e = .returned (.int .u64 x.v) ∧ ∃ q, w' = w.drewN q :=
  at_two A n c cs (nmB i) i (i / 26) (i % 26) x w hcs hx (nmB_size i) (nmB_0 hi) (nmB_1 hi) (by omega) (by omega) hi
end Go.Proofs.Yteockodnfempfaa
/- AuctionMany returns true, walked. Conditions: those named in each theorem. -/
namespace Go.Proofs.Yteockodnfempfaa
open Go Go.RowKit Go.Gv Go.Sort

def u64s (L : List Int) : List U64 := L.map U64.mk
theorem u64s_len (L : List Int) : (u64s L).length = L.length := by unfold u64s; simp
theorem u64s_get {L : List Int} {k : Nat} {x : Int} (h : L[k]? = some x) : (u64s L)[k]? = some ⟨x⟩ := by unfold u64s; rw [List.getElem?_map, h]; rfl
/-- Two bytes, as a name. -/
theorem two_conv (w : World) (b : Nat) (k : Nat) (hk : k < 100) (h0 : w.cell? ⟨b, 0, none⟩ = some (.int .u8 (97 + ((k / 26 : Nat) : Int)))) (h1 : w.cell? ⟨b, 1, none⟩ = some (.int .u8 (97 + ((k % 26 : Nat) : Int)))) :
    (convert 79 9 (.slice (some ⟨b, 0, none⟩) 2 2)).run Try.prog w = .ok (.string (nmB k)) w := by
  have := run_convert_bytes_back (P := Try.prog) w 79 9 5 ⟨b, 0, none⟩ 2 [UInt8.ofNat (97 + k / 26), UInt8.ofNat (97 + k % 26)] (by kernel_rfl) (by kernel_rfl) (by kernel_rfl) (fun j hj => by
    match j, hj with
    | 0, _ =>
      show w.cell? ⟨b, 0, none⟩ = _
      rw [h0]
      show some (Value.int .u8 (97 + ((k / 26 : Nat) : Int))) = some (Value.int .u8 (((UInt8.ofNat (97 + k / 26)).toNat : Nat) : Int))
      rw [UInt8.toNat_ofNat', show (97 + k / 26) % 2 ^ 8 = 97 + k / 26 from by omega]
      push_cast
      rfl
    | 1, _ =>
      show w.cell? ⟨b, 1, none⟩ = _
      rw [h1]
      show some (Value.int .u8 (97 + ((k % 26 : Nat) : Int))) = some (Value.int .u8 (((UInt8.ofNat (97 + k % 26)).toNat : Nat) : Int))
      rw [UInt8.toNat_ofNat', show (97 + k % 26) % 2 ^ 8 = 97 + k % 26 from by omega]
      push_cast
      rfl)
  exact this
theorem HRel.bare {S : Nat → Prop} {w w' : World} : ∀ {m : List (ByteArray × GAuctionSale)} {H : MHouse}, (∀ q ∈ H, q.2.bids = []) → HRel w m H → HRel w' m H
  | [], [], _, h => h
  | _ :: _, q :: _, hb, h => ⟨⟨h.1.1, by
      obtain ⟨hd, h1, h2, h3⟩ := h.1.2
      have hq := hb q (by simp)
      rw [hq] at h2
      have hl : hd.len = 0 := h2.1.symm
      exact ⟨hd, h1, by rw [hq, hl]; exact ⟨rfl, fun h => absurd h (Nat.lt_irrefl 0)⟩, h3⟩⟩, HRel.bare (S := S) (fun q hq => hb q (by simp [hq])) h.2⟩
  | [], _ :: _, _, h => h.elim
  | _ :: _, [], _, h => h.elim
/-- A house without bids stands where its own blocks stand. -/
theorem HouseIs.bare {S : Nat → Prop} {w w' : World} {p : Addr} {r : Nat} {H : MHouse} (h : HouseIs w p r H) (hb : ∀ q ∈ H, q.2.bids = []) (hc : Chg S w w') (hp : ¬ S p.block) (hr : ¬ S r) : HouseIs w' p r H := by
  obtain ⟨h1, m, hm, h2⟩ := h
  exact ⟨hc.cell h1 hp, m, hc.map hm hr, HRel.bare (S := S) hb h2⟩
theorem manyH_bare (cs : List Int) : ∀ q ∈ manyH cs, q.2.bids = [] := by
  intro q hq
  obtain ⟨i, c, _, rfl⟩ := manyH_mem hq
  rfl
theorem at_s (A : Option Addr) (n c : Nat) (cs : List U64) (s : ByteArray) (i : Nat) (x : U64) (w : World) (hcs : Sl U64 w w.heap.size A n cs) (hx : cs[i]? = some x) (hs : s = nmB i) (hi : i < 100) :
    Calls Try.prog 64 #[.slice A n c, .string s] w fun e w' => e = .returned (.int .u64 x.v) ∧ ∃ q, w' = w.drewN q := by
  subst hs
  exact at_any A n c cs i x w hcs hx hi
theorem many_lt {L : List Int} {k i : Nat} {c : Int} (hL : L.length = k) (hk : k ≤ 64) (h : L[i]? = some c) : i < 100 := by
  have := (List.getElem?_eq_some_iff.1 h).1
  omega
theorem bytesE {a b : ByteArray} (h : a.toList = b.toList) : a = b := by
  rw [ByteArray.toList_eq, ByteArray.toList_eq] at h
  cases a; cases b
  simp only at h
  congr 1
  exact Array.toList_inj.1 h
theorem at_q {A : Option Addr} {n c : Nat} {cs : List U64} {s : ByteArray} {i : Nat} {x : U64} {w : World} (hcs : Sl U64 w w.heap.size A n cs) (hx : cs[i]? = some x) (hs : s = nmB i) (hi : i < 100) :
    ∀ a, Calls Try.prog 64 #[.slice A n c, .string s] (w.drewN a) fun e w' => e = .returned (.int .u64 x.v) ∧ ∃ m, w' = w.drewN m :=
  fun a => Calls.quiet_of (at_s A n c cs s i x (w.drewN a) (Sl.drewN_ hcs a) hx hs hi)
/-- A result of a settled house, its cells. -/
theorem many_cell {w : World} {A5 : Option Addr} {D : List MSale} {L : List Int} {z : Int} {i d : Nat} (hD : D.Perm (dueM (manyH L) z)) (hs : Sl GAuctionResult w w.heap.size A5 d (D.map endR)) (hi : i < d) :
    ∃ (ad : Addr) (x : MSale) (s : ByteArray) (c : Int) (j : Nat), A5 = some ad ∧ D[i]? = some x ∧ x.close = c ∧ L[j]? = some c ∧ s.size = 2 ∧ s = nmB j ∧ x.name = s ∧
      w.cell? (ad.add (i * 3)) = some (.string s) ∧ w.cell? ⟨ad.block, (ad.add (i * 3)).off + 1, none⟩ = some (.int .i64 (-1)) ∧ w.cell? ⟨ad.block, (ad.add (i * 3)).off + 2, none⟩ = some (.int .i64 0) := by
  obtain ⟨ad, u, rfl, _, hu, hg⟩ := hs.at_ (k := i) hi
  rw [List.getElem?_map] at hu
  cases hx : D[i]? with
  | none => rw [hx] at hu; cases hu
  | some x =>
    rw [hx] at hu
    injection hu with hu
    obtain ⟨j, c, hj, hxe⟩ := dueM_many_mem (hD.mem_iff.1 (List.mem_of_getElem? hx))
    have hen : endR x = ⟨nmB j, -1, 0⟩ := by rw [hxe]; exact endR_new _ _ _ _
    change endR x = u at hu
    rw [← hu, hen] at hg
    change get? GAuctionResult w (ad.add (i * 3)) = _ at hg
    have f1 := cell_off (by omega) (GAuctionResult.at_winner hg)
    have f2 := cell_off (by omega) (GAuctionResult.at_price hg)
    rw [add_block] at f1 f2
    exact ⟨ad, x, nmB j, c, j, rfl, rfl, by rw [hxe]; rfl, hj, nmB_size j, rfl, by rw [hxe]; rfl, cell_zero (GAuctionResult.at_name hg), f1, f2⟩
set_option maxRecDepth 100000 in
set_option maxHeartbeats 8000000 in
theorem many_any (A : Option Addr) (n c : Nat) (xs : List U64) (nn now : Int) (w : World) (hx : Sl U64 w w.heap.size A n xs) (hox : ∀ x ∈ xs, 0 ≤ x.v ∧ x.v ≤ 18446744073709551615) (hn : n ≤ maxLen)
    (hn1 : -9223372036854775808 ≤ nn) (hn2 : nn ≤ 9223372036854775807) (hw1 : 0 ≤ now) (hw2 : now ≤ 18446744073709551615) :
    Calls Try.prog 19 #[.slice A n c, .int .i64 nn, .int .u64 now] w fun e w' => e = .returned (.bool true) ∧ Bel w w' := by
  unfold maxLen at hn
  obtain ⟨q, hq, hq0, hq1⟩ : ∃ q, within nn 67 = q ∧ 0 ≤ q ∧ q < 67 := by
    refine ⟨_, rfl, ?_, ?_⟩ <;> unfold within <;> rw [if_neg (by omega)]
    · exact Int.emod_nonneg _ (by omega)
    · exact Int.emod_lt_of_pos _ (by omega)
  obtain ⟨m0, hm0⟩ := Int.eq_ofNat_of_zero_le hq0
  rw [hm0] at hq
  have HQ := Lib.hid hq
  have hmb : m0 < 67 := by omega
  obtain ⟨m, hm⟩ : ∃ m : Nat, (1 : Int) + (m0 : Int) = (m : Int) := ⟨1 + m0, by omega⟩
  have hm1 : m ≤ 67 := by omega
  have HX := Lib.hid hx; have HOX := Lib.hid hox
  clear hx hox hq hq0 hq1 hm0
  go_enter Try.func19, Try.ntmps19
  go_wp2_with fail
  refine (new_any _).mono ?_
  rintro _ w1 ⟨g, r, rfl, hH, hg, hr, hne, hlt, hb⟩
  have hrl := hH.2.lt
  have HH := Lib.hid hH; have HB := Lib.hid hb; clear hH hb
  go_wp2_with fail
  refine (within_is nn 67 m0 _ HQ.out (by omega) hn1 hn2).mono ?_
  rintro _ w2 ⟨rfl, h2⟩
  obtain rfl : w1 = w2 := by first | exact h2 | exact h2.symm
  have hmw : IntKind.i64.wrap (1 + (m0 : Int)) = (m : Int) := by rw [IntWalk.i64_in _ (by omega), hm]
  have hHM : HouseIs w1 ⟨g, 0, none⟩ r (manyH []) := HH.out
  have HHM := Lib.hid hHM
  clear hHM
  go_upto_block 0 with fail
  go_cut [8] (fun v wx => ∃ L : List Int, L.length = min m 64 ∧ (∀ a ∈ L, 0 < a ∧ a ≤ 20) ∧ HouseIs wx ⟨g, 0, none⟩ r (manyH L) ∧ OwnS wx w1.heap.size 28 v (u64s L) ∧ Bel w wx)
  case first => as_aux_lemma =>
    go_wp2_with fail
    go_loopw [8, 9] (fun v i wr => ∃ (k : Nat) (L : List Int), k ≤ m ∧ i = .int .i64 k ∧ L.length = min k 64 ∧ (∀ a ∈ L, 0 < a ∧ a ≤ 20) ∧ HouseIs wr ⟨g, 0, none⟩ r (manyH L) ∧ OwnS wr w1.heap.size 28 v (u64s L) ∧ Bel w wr ∧ w1.heap.size ≤ wr.heap.size) (fun _ i _ => m - (intOf i).toNat)
    case atStart => exact ⟨0, [], Nat.zero_le _, rfl, by simp, by simp, HHM.out, OwnS.nil _ _ _, HB.out, Nat.le_refl _⟩
    case round =>
      obtain ⟨k, L, hk, rfl, hLl, hLb, hHk, hown, hbk, hzw⟩ := hrel

      have HLL := Lib.hid hLl; have HLB := Lib.hid hLb; have HHK := Lib.hid hHk; have HO := Lib.hid hown; have HBK := Lib.hid hbk
      clear hLl hLb hHk hown hbk
      by_cases hlt : k < m
      · have hlt2 : (k : Int) < (m : Int) := by omega
        have hk0 : (0 : Int) ≤ (k : Int) := by omega
        go_upto_if 30 with fail
        go_cut [10] (fun v wx => ∃ c : Int, v = .int .u64 c ∧ 0 < c ∧ c ≤ 20 ∧ wx = wr)
        case first => as_aux_lemma =>
          by_cases hkn : k < n
          · obtain ⟨ad, x, rfl, _, hxk, hgx⟩ := (HX.out.stepB HBK.out).at_ (k := k) hkn
            have hxo := HOX.out x (List.mem_of_getElem? hxk)
            have hcx := getU hgx
            simp only [show Enc.n U64 = 1 from rfl, Nat.mul_one] at hcx
            have h1 := Int.emod_nonneg x.v (b := 20) (by omega)
            have h2 := Int.emod_lt_of_pos x.v (b := 20) (by omega)
            have hkn2 : (k : Int) < (n : Int) := by omega
            clear hxk hgx
            go_wp2
            go_meet
            exact ⟨_, rfl, by omega, by omega, rfl⟩
          · have hkn2 : ¬ (k : Int) < (n : Int) := by omega
            go_wp2
            go_meet
            exact ⟨5, rfl, by omega, by omega, rfl⟩
        case rest =>
          obtain ⟨c, rfl, hc0, hc20, rfl⟩ := hcut
          obtain ⟨wr, rfl⟩ : ∃ w', w' = wc := ⟨_, rfl⟩
          obtain ⟨a, ha⟩ : ∃ a, k / 26 = a := ⟨_, rfl⟩
          obtain ⟨b, hb⟩ : ∃ b, k % 26 = b := ⟨_, rfl⟩
          have d1 : Int.tdiv (k : Int) 26 = (a : Int) := by rw [Int.tdiv_eq_ediv_of_nonneg (by omega)]; omega
          have d1' : (k : Int) / 26 = (a : Int) := by omega
          have d2' : (k : Int) % 26 = (b : Int) := by omega
          have d2 : Int.tmod (k : Int) 26 = (b : Int) := by rw [Int.tmod_eq_emod_of_nonneg (by omega)]; omega
          obtain ⟨v, hv⟩ : ∃ v, decide (k % 2 = 0) = v := ⟨_, rfl⟩
          have d3 : (Int.tmod (k : Int) 2 == 0) = v := by
            rw [← hv, Int.tmod_eq_emod_of_nonneg (by omega)]
            rcases Nat.mod_two_eq_zero_or_one k with h | h
            · have : (k : Int) % 2 = 0 := by omega
              rw [this, h]; rfl
            · have : (k : Int) % 2 = 1 := by omega
              rw [this, h]; rfl
          have d3' : ((k : Int) % 2 == 0) = v := by rw [← d3, Int.tmod_eq_emod_of_nonneg (by omega)]
          have e1 : IntKind.i64.wrap (a : Int) = a := IntWalk.i64_in _ (by omega)
          have e2 : IntKind.i64.wrap (97 + (a : Int)) = 97 + a := IntWalk.i64_in _ (by omega)
          have e3 : IntKind.i64.wrap (97 + (b : Int)) = 97 + b := IntWalk.i64_in _ (by omega)
          have e4 : IntKind.u8.wrap (97 + (a : Int)) = 97 + a := IntWalk.u8_in _ (by omega)
          have e5 : IntKind.u8.wrap (97 + (b : Int)) = 97 + b := IntWalk.u8_in _ (by omega)
          have e6 : IntKind.i64.wrap (b : Int) = b := IntWalk.i64_in _ (by omega)
          have hconv : (convert 79 9 (.slice (some ⟨wr.heap.size, 0, none⟩) 2 2)).run Try.prog (wr.alloc (.cells #[.int .u8 (97 + (a : Int)), .int .u8 (97 + (b : Int))] 5)) = .ok (.string (nmB k)) (wr.alloc (.cells #[.int .u8 (97 + (a : Int)), .int .u8 (97 + (b : Int))] 5)) := by
            refine two_conv _ _ k (by omega) ?_ ?_
            · unfold World.cell?; rw [heap_alloc_new, ha]; rfl
            · unfold World.cell?; rw [heap_alloc_new, hb]; rfl
          have HV := Lib.hid hv
          clear ha hb hv
          by_cases hk64 : k < 64
          · have hLk : L.length = k := by rw [HLL.out]; omega
            have HOR := Lib.hid (show openR (manyH L) (nmB k) 0 c 0 = 0 from by have := openR_many (cs := L) (c := c) (by omega) hc0; rwa [hLk] at this)
            have HOH := Lib.hid (show openH (manyH L) (nmB k) v 0 c 0 = manyH (L ++ [c]) from by have := openH_many (cs := L) (c := c) (by omega) hc0; rw [hLk] at this; rw [← HV.out]; exact this)
            have hk642 : (k : Int) < 64 := by omega
            go_wp2_with fail
            refine (open_is 0 (manyH (L ++ [c])) ⟨g, 0, none⟩ r (manyH L) (nmB k) v 0 c 0 _ HOR.out HOH.out (HHK.out.step ((Bel.refl wr).alloc _)) hne (by rw [nmB_size]; unfold maxLen; omega) (by rw [manyH_len, hLk]; unfold maxLen; omega)).mono ?_
            rintro _ w5 ⟨rfl, hH5, hg5⟩
            have hO5 : OwnS w5 w1.heap.size 28 u8 (u64s L) := OwnS.gx (HO.out.alloc _) hg5 hrl
            have HB5 := Lib.hid ((HBK.out.alloc _).gxb hg5 hr)
            have hil : (u64s L).length ≤ 64 := by rw [u64s_len, hLk]; omega
            have hz5 : w1.heap.size ≤ w5.heap.size := by have := hg5.size; simp only [World.size_alloc] at this; omega
            obtain ⟨v7, w7, hrun7, ho7, hg7, _⟩ := gAppend_S (P := Try.prog) ei36 (t := 36) (hO5.alloc (.cells #[.int .u64 c] 28)) (c := 1) (m := 1) (A := some ⟨w5.heap.size, 0, none⟩) (Sl.new_ (B := w5.heap.size + 1) (xs := [(⟨c⟩ : U64)]) rfl rfl rfl (by omega)) (Nat.le_trans (Nat.add_le_add_right hil 1) (by unfold maxLen; omega)) (Nat.le_trans (Nat.mul_le_mul_right _ (Nat.add_le_add_right hil 1)) (by omega)) (by simp only [World.size_alloc]; omega) 36
            have hb7 := (HB5.out.alloc (.cells #[.int .u64 c] 28)).appS hg7 (hO5.alloc (.cells #[.int .u64 c] 28)) (HB.out.size)
            have eL : u64s L ++ [(⟨c⟩ : U64)] = u64s (L ++ [c]) := by unfold u64s; simp
            rw [eL] at ho7
            have hH7 : HouseIs w7 ⟨g, 0, none⟩ r (manyH (L ++ [c])) := HouseIs.bare (S := fun q => u8.ownBlock = some q) (hH5.step ((Bel.refl w5).alloc (.cells #[.int .u64 c] 28))) (manyH_bare _) (Chg.of_grown hg7 fun q e => e) (fun e => by have := (hO5.lt g e).1; omega) (fun e => by have := (hO5.lt r e).1; omega)
            have HH7 := Lib.hid hH7; have HO7 := Lib.hid ho7; have HB7 := Lib.hid hb7
            have HLB7 := Lib.hid (show ∀ a ∈ L ++ [c], 0 < a ∧ a ≤ 20 from fun a ha => by
              rw [List.mem_append, List.mem_singleton] at ha
              rcases ha with ha | rfl
              · exact HLB.out a ha
              · exact ⟨hc0, hc20⟩)
            have hL7 : (L ++ [c]).length = min (k + 1) 64 := by rw [List.length_append, hLk]; simp; omega
            have HL7 := Lib.hid hL7
            have hz7 : w1.heap.size ≤ w7.heap.size := by have := hg7.size; simp only [World.size_alloc] at this; omega
            clear hH5 hO5 hil eL hH7 ho7 hb7 hL7 hg7 hg5 d1 d2 d3 d1' d2' d3' e1 e2 e3 e4 e5 e6 hconv
            go_wp2_with fail
            --GOAL
            exact ⟨⟨k + 1, L ++ [c], by omega, by go_num, HL7.out, HLB7.out, HH7.out, HO7.out, HB7.out, hz7⟩, by simp [intOf]; omega⟩
          · have hLk : L.length = 64 := by rw [HLL.out]; omega
            have HOR := Lib.hid (show openR (manyH L) (nmB k) 0 c 0 = 7 from openR_full hLk (by omega) (by omega) hc0)
            have HOH := Lib.hid (show openH (manyH L) (nmB k) v 0 c 0 = manyH L from openH_no (by rw [HOR.out]; decide))
            have hk642 : ¬ (k : Int) < 64 := by omega
            go_wp2_with fail
            refine (open_is 7 (manyH L) ⟨g, 0, none⟩ r (manyH L) (nmB k) v 0 c 0 _ HOR.out HOH.out (HHK.out.step ((Bel.refl wr).alloc _)) hne (by rw [nmB_size]; unfold maxLen; omega) (by rw [manyH_len, hLk]; unfold maxLen; omega)).mono ?_
            rintro _ w5 ⟨rfl, hH5, hg5⟩
            have HH5 := Lib.hid hH5
            have HO5 := Lib.hid (show OwnS w5 w1.heap.size 28 u8 (u64s L) from OwnS.gx (HO.out.alloc _) hg5 hrl)
            have HB5 := Lib.hid ((HBK.out.alloc _).gxb hg5 hr)
            have hz5 : w1.heap.size ≤ w5.heap.size := by have := hg5.size; simp only [World.size_alloc] at this; omega
            have hL5 : L.length = min (k + 1) 64 := by omega
            have HL5 := Lib.hid hL5
            clear hH5 hg5 hL5 d1 d2 d3 d1' d2' d3' e1 e2 e3 e4 e5 e6 hconv
            go_wp2_with fail
            exact ⟨⟨k + 1, L, by omega, by go_num, HL5.out, HLB.out, HH5.out, HO5.out, HB5.out, hz5⟩, by simp [intOf]; omega⟩
      · obtain rfl : k = m := by omega
        have hn1 : ¬ (k : Int) < (k : Int) := by omega
        go_wp2_with fail
        go_meet
        exact ⟨L, HLL.out, HLB.out, HHK.out, HO.out, HBK.out⟩
  case rest =>
    obtain ⟨L, hLl, hLb, hH, hown, hb⟩ := hcut
    obtain ⟨A1, c1, hv1, hoa1, hc1, hm1⟩ := OwnS.ownA hown
    obtain ⟨q, hq⟩ : ∃ q, L.length = q := ⟨_, rfl⟩
    have hsl := hoa1.sl
    rw [u64s_len, hq] at hv1 hsl
    subst hv1
    have hq64 : q ≤ 64 := by omega
    obtain ⟨z, hz⟩ : ∃ z, now % 30 = z := ⟨_, rfl⟩
    have HH2 := Lib.hid hH; have HB2 := Lib.hid hb; have HSL := Lib.hid hsl; have HQL := Lib.hid hq; have HLB := Lib.hid hLb
    clear hH hb hsl hq hLb hown hoa1 hLl
    go_wp2_with fail
    go_loopw [12, 76] (fun dv iv wi => ∃ k d : Nat, k ≤ q ∧ d ≤ k ∧ iv = .int .i64 k ∧ dv = .int .i64 d ∧ wi = wc ∧ Hid (((L.take k).filter fun c => decide (c < z)).length = d)) (fun _ iv _ => q - (intOf iv).toNat)
    case atStart => exact ⟨0, 0, by omega, by omega, rfl, rfl, rfl, Lib.hid rfl⟩
    case round =>
      obtain ⟨k, d, hk, hdk, rfl, rfl, rfl, hd⟩ := hrel
      by_cases hlt : k < q
      · obtain ⟨ad, u, rfl, _, huk, hgu⟩ := HSL.out.at_ (k := k) hlt
        obtain ⟨a, ha⟩ : ∃ a, L[k]? = some a := ⟨_, List.getElem?_eq_getElem (by rw [HQL.out]; exact hlt)⟩
        rw [u64s_get ha] at huk
        injection huk with huk
        subst huk
        simp only [show Enc.n U64 = 1 from rfl, Nat.mul_one] at hgu
        have fu := getU hgu
        have hst : (L.take (k + 1)).filter (fun c => decide (c < z)) = (L.take k).filter (fun c => decide (c < z)) ++ (if a < z then [a] else []) := by
          rw [List.take_add_one, ha, List.filter_append]
          by_cases h : a < z <;> simp [h]
        have hk0 : (0 : Int) ≤ (k : Int) := by omega
        have hk1 : (k : Int) < (q : Int) := by omega
        have HST := Lib.hid hst
        clear hgu ha hst
        by_cases haz : a < z
        · have HD2 := Lib.hid (show ((L.take (k + 1)).filter fun c => decide (c < z)).length = d + 1 by rw [HST.out, if_pos haz, List.length_append, hd.out]; rfl)
          go_wp2_with fail
          exact ⟨⟨k + 1, d + 1, by omega, by omega, by go_num, by go_num, trivial, HD2⟩, by simp [intOf]; omega⟩
        · have HD2 := Lib.hid (show ((L.take (k + 1)).filter fun c => decide (c < z)).length = d by rw [HST.out, if_neg haz, List.append_nil, hd.out])
          go_wp2_with fail
          exact ⟨⟨k + 1, d, by omega, by omega, by go_num, rfl, trivial, HD2⟩, by simp [intOf]; omega⟩
      · obtain rfl : k = q := by omega
        have hn9 : ¬ (k : Int) < (k : Int) := by omega
        have HDL := Lib.hid (show (L.filter fun c => decide (c < z)).length = d by
          have := hd.out
          rwa [List.take_of_length_le (by rw [HQL.out]; exact Nat.le_refl _)] at this)
        clear hd
        go_wp2_with fail
        refine (settle_any ⟨g, 0, none⟩ r (manyH L) z _ HH2.out hne (manyH_named L) (by rw [manyH_len, HQL.out]; omega) (manyH_bids L)).mono ?_
        rintro _ w5 ⟨D, v5, rfl, hDp, hDs, ho5, hH5, hg5⟩
        obtain ⟨A5, c5, hv5, hoa5, _, _⟩ := OwnS.ownA ho5
        have hDl : D.length = d := by rw [hDp.length_eq, dueM_many_len z _ L rfl, HDL.out]
        have hsl5 := hoa5.sl
        rw [List.length_map, hDl] at hv5 hsl5
        subst hv5
        have HH5 := Lib.hid hH5; have HB5 := Lib.hid (HB2.out.gxb hg5 hr); have HS5 := Lib.hid hsl5; have HDP := Lib.hid hDp; have HDS := Lib.hid hDs; have HDD := Lib.hid hDl
        have HSL5 := Lib.hid (show Sl U64 w5 w5.heap.size A1 k (u64s L) from HouseIs.sl HH2.out hg5 HSL.out)
        clear hH5 hg5 hsl5 hDp hDs hDl ho5 hoa5
        have hkeys : ∀ p ∈ settleH (manyH L) z, p.1.size ≤ maxLen := fun p hp => by
          have h1 : p.1 ∈ (settleH (manyH L) z).map (·.1) := List.mem_map.2 ⟨p, hp, rfl⟩
          rw [settleH_keys, List.mem_map] at h1
          obtain ⟨p2, h2, h3⟩ := h1
          obtain ⟨i, c, _, rfl⟩ := manyH_mem h2
          rw [← h3]
          show (nmB i).size ≤ maxLen
          rw [nmB_size]; unfold maxLen; omega
        have hslen : (settleH (manyH L) z).length = k := by
          have := congrArg List.length (settleH_keys (manyH L) z)
          rw [List.length_map, List.length_map, manyH_len, HQL.out] at this
          exact this
        have HKE := Lib.hid hkeys
        have HSN := Lib.hid hslen
        clear hkeys hslen
        go_wp2_with fail
        refine (names_any ⟨g, 0, none⟩ r (settleH (manyH L) z) _ HH5.out HKE.out (by rw [HSN.out]; omega)).mono ?_
        rintro _ w6 ⟨A6, c6, rfl, hb6⟩
        rw [HSN.out]
        have HB6 := Lib.hid (HB5.out.trans hb6); have HS6 := Lib.hid (HS5.out.stepB hb6); have HSL6 := Lib.hid (HSL5.out.stepB hb6)
        clear hb6 HS5 HSL5 HB5
        go_wp2_with fail
        go_loopw [105] (fun iv wi => ∃ i : Nat, i ≤ d ∧ iv = .int .i64 i ∧ Bel w6 wi) (fun iv _ => d - (intOf iv).toNat)
        case atStart => exact ⟨0, by omega, rfl, Bel.refl _⟩
        case round =>
          obtain ⟨i, hi, rfl, hbi⟩ := hrel
          obtain ⟨wi, rfl⟩ : ∃ w', w' = wr := ⟨_, rfl⟩
          have HBI := Lib.hid hbi
          by_cases hlt3 : i < d
          · obtain ⟨ad5, x, s, cx, j, rfl, hx, hxc, hLx, hs, hsn, hxn, f0, f1, f2⟩ := many_cell HDP.out (HS6.out.stepB hbi) hlt3
            have hd2 : (i : Int) < (d : Int) := by omega
            have hi0 : (0 : Int) ≤ (i : Int) := by omega
            have HXX := Lib.hid hx; have HXC := Lib.hid hxc; have HLX := Lib.hid hLx; have HSN := Lib.hid hsn; have HXN := Lib.hid hxn
            clear hbi hx hxc hLx hsn hxn
            rcases Nat.eq_zero_or_pos i with h0 | h0
            · have p1 : decide ((0 : Int) < (i : Int)) = false := decide_eq_false (by omega)
              have p2 : decide (0 < i) = false := decide_eq_false (by omega)
              clear h0
              go_wp2_with fail
              try simp only [List.append]
              go_big_quiet (fail)
              --GOAL
              go_wp2_with fail
              exact ⟨⟨i + 1, by omega, by go_num, HBI.out.drewN _⟩, by simp [intOf]; omega⟩
            · obtain ⟨p, hp⟩ : ∃ p, i = p + 1 := ⟨i - 1, by omega⟩
              obtain ⟨ad6, y, t, cy, j2, e6, hy, hyc, hLy, ht, htn, hyn, g0, _, _⟩ := many_cell HDP.out (HS6.out.stepB HBI.out) (i := p) (by omega)
              injection e6 with e6
              subst e6
              have hord := many_order (manyH_nodup _ L rfl (by rw [HQL.out]; exact hq64)) (manyH_named L) HDP.out HDS.out hy (by rw [← hp]; exact HXX.out)
              rw [hyc, HXC.out, hyn, HXN.out] at hord
              have HORD := Lib.hid hord; have HLY := Lib.hid hLy; have HTN := Lib.hid htn
              have e1 : IntKind.i64.wrap ((i : Int) - 1) = (p : Int) := by rw [IntWalk.i64_in _ (by omega)]; omega
              have hp0 : (0 : Int) ≤ (p : Int) := by omega
              have hp1 : (p : Int) < (d : Int) := by omega
              have p1 : decide ((0 : Int) < (i : Int)) = true := decide_eq_true (by omega)
              have p2 : decide (0 < i) = true := decide_eq_true (by omega)
              have AT1 := Lib.hid (at_q (c := c1) (HSL6.out.stepB HBI.out) (u64s_get HLX.out) HSN.out (many_lt HQL.out hq64 HLX.out))
              have AT2 := Lib.hid (at_q (c := c1) (HSL6.out.stepB HBI.out) (u64s_get HLY.out) HTN.out (many_lt HQL.out hq64 HLY.out))
              have hc1 : ¬ cx < cy := by rcases hord with h | h <;> omega
              have q1 : decide (cx < cy) = false := decide_eq_false hc1
              clear h0 hp hy hyc hLy htn hyn hord
              rcases Int.lt_or_eq_of_le (Int.not_lt.1 hc1) with hlt9 | heq9
              · have q2 : (cx == cy) = false := by rw [beq_eq_false_iff_ne]; omega
                clear hlt9
                go_wp2_with fail
                try simp only [List.append]
                go_big_quiet ((first | with_reducible exact AT1.out _ | with_reducible exact AT2.out _))
                go_wp2_with fail
                exact ⟨⟨i + 1, by omega, by go_num, HBI.out.drewN _⟩, by simp [intOf]; omega⟩
              · subst heq9
                have hst : s ≠ t ∧ ¬ s.toList < t.toList := HORD.out.elim (fun h => absurd h (Int.lt_irrefl _)) (fun h => h.2)
                have q2 : (s.toList == t.toList) = false := by rw [beq_eq_false_iff_ne]; exact fun e => hst.1 (bytesE e)
                have q3 : Op.bytesLess s.toList t.toList = false := by rw [bytesLess_eq, decide_eq_false_iff_not]; exact hst.2
                have q4 : Op.bytesLess t.toList s.toList = true := by
                  rw [bytesLess_eq, decide_eq_true_eq]
                  exact Classical.byContradiction fun h => hst.1 (bytesE (List.le_antisymm h hst.2))
                clear hst
                go_wp2_with fail
                try simp only [List.append]
                go_big_quiet ((first | with_reducible exact AT1.out _ | with_reducible exact AT2.out _))
                go_wp2_with fail
                exact ⟨⟨i + 1, by omega, by go_num, HBI.out.drewN _⟩, by simp [intOf]; omega⟩
          · obtain rfl : i = d := by omega
            have hn9 : ¬ (i : Int) < (i : Int) := by omega
            have HBW := Lib.hid (HB6.out.trans hbi)
            go_wp2_with fail
            refine (wakesA_any _).mono ?_
            rintro _ w8 ⟨rfl, hb8⟩
            have HB8 := Lib.hid (HBW.out.trans hb8); clear hb8
            go_wp2_with fail
            go_ret
            exact ⟨rfl, HB8.out⟩
end Go.Proofs.Yteockodnfempfaa
