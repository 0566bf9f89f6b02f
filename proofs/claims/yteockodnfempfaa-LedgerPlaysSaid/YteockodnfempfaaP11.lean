/- LedgerRefuses returns true, walked. Conditions: those named in each theorem. -/
import Derived.Test.YteockodnfempfaaP10
import Derived.Test.YteockodnfempfaaP9
import Derived.Test.YteockodnfempfaaP2
import Derived.Test.YteockodnfempfaaP1
import Derived.Deep.DeepCutAuto
import Derived.Deep.CutBlock
/- Batches that came in; slices beside an own list. Conditions: those named in each theorem. -/
namespace Go.Proofs.Yteockodnfempfaa
open Go Go.RowKit Go.Gv

theorem r2_choose {α β : Type} {R : α → β → Prop} : ∀ {xs : List α}, (∀ x ∈ xs, ∃ y, R x y) → ∃ ys, R2 R xs ys
  | [], _ => ⟨[], trivial⟩
  | x :: xs, h => by
    obtain ⟨y, hy⟩ := h x (by simp)
    obtain ⟨ys, hys⟩ := r2_choose (xs := xs) fun z hz => h z (by simp [hz])
    exact ⟨y :: ys, hy, hys⟩
structure RCert where
  name : GName
  hash : GHash
  nst : Nat
structure RBatch where
  epoch : Int
  time : Int
  proms : List (List RCert)
  opens : List (Int × List U8)
  tombs : List Int
def I64R (n : Int) : Prop := -9223372036854775808 ≤ n ∧ n ≤ 9223372036854775807
def U64R (n : Int) : Prop := 0 ≤ n ∧ n ≤ 18446744073709551615
def RSl {α : Type} [Enc α] (w : World) (h : Hdr) (xs : List α) : Prop := Sl α w w.heap.size h.a h.len xs ∧ h.len ≤ h.cap ∧ h.cap ≤ maxLen
def RCertIs (c : GCert) (r : RCert) : Prop := c.commit.name = r.name ∧ c.commit.hash = r.hash ∧ c.stamps.len = r.nst ∧ I64R r.name.client ∧ I64R r.name.seq ∧ r.nst ≤ maxLen
def RPromIs (w : World) (p : GPromise) (l : List RCert) : Prop := ∃ cs, RSl w p.certs cs ∧ R2 RCertIs cs l
def ROpenIs (w : World) (o : GOpening) (m : Int × List U8) : Prop := o.index = m.1 ∧ I64R m.1 ∧ RSl w o.payload m.2
def RTombIs (t : GTomb) (i : Int) : Prop := t.index = i ∧ I64R i
structure RawIs (w : World) (x : GBatch) (R : RBatch) : Prop where
  epoch : x.epoch = R.epoch
  time : x.time = R.time
  epochR : I64R R.epoch
  timeR : U64R R.time
  proms : ∃ ps, RSl w x.promises ps ∧ R2 (RPromIs w) ps R.proms
  opens : ∃ os, RSl w x.openings os ∧ R2 (ROpenIs w) os R.opens
  tombs : ∃ ts, RSl (α := GTomb) w x.tombs ts ∧ R2 RTombIs ts R.tombs
section
variable {w w' : World}
theorem RSl.bel {α : Type} [Enc α] {h : Hdr} {xs : List α} (hs : RSl w h xs) (hb : Bel w w') : RSl w' h xs := ⟨hs.1.stepB hb, hs.2⟩
theorem RPromIs.bel {p : GPromise} {l : List RCert} (h : RPromIs w p l) (hb : Bel w w') : RPromIs w' p l := by
  obtain ⟨cs, h1, h2⟩ := h
  exact ⟨cs, h1.bel hb, h2⟩
theorem ROpenIs.bel {o : GOpening} {m : Int × List U8} (h : ROpenIs w o m) (hb : Bel w w') : ROpenIs w' o m := ⟨h.1, h.2.1, h.2.2.bel hb⟩
theorem RawIs.bel {x : GBatch} {R : RBatch} (h : RawIs w x R) (hb : Bel w w') : RawIs w' x R := by
  obtain ⟨h1, h2, h3, h4, ⟨ps, p1, p2⟩, ⟨os, o1, o2⟩, ts, t1, t2⟩ := h
  exact ⟨h1, h2, h3, h4, ⟨ps, p1.bel hb, p2.mono fun _ _ h => h.bel hb⟩, ⟨os, o1.bel hb, o2.mono fun _ _ h => h.bel hb⟩, ts, t1.bel hb, t2⟩
theorem raw_of {x : GBatch} (h : ok74 w x) : ∃ R, RawIs w x R := by
  obtain ⟨h1, h2, ⟨ps, p1, p2, p3⟩, ⟨os, o1, o2, o3⟩, ts, t1, t2, t3⟩ := h
  obtain ⟨P, hP⟩ := r2_choose (R := RPromIs w) (xs := ps) fun p hp => by
    obtain ⟨_, _, _, ⟨cs, c1, c2, c3⟩, _⟩ := p2 p hp
    obtain ⟨l, hl⟩ := r2_choose (R := RCertIs) (xs := cs) fun c hc => by
      obtain ⟨⟨hn, _⟩, ⟨ss, _, _, s1, s2⟩⟩ := c2 c hc
      exact ⟨⟨c.commit.name, c.commit.hash, c.stamps.len⟩, rfl, rfl, rfl, FitI.i64 hn.1, FitI.i64 hn.2, Nat.le_trans s1 s2⟩
    exact ⟨l, cs, ⟨c1, c3⟩, hl⟩
  obtain ⟨O, hO⟩ := r2_choose (R := ROpenIs w) (xs := os) fun o ho => by
    obtain ⟨hi, ⟨bs, b1, _, b3⟩, _⟩ := o2 o ho
    exact ⟨(o.index, bs), rfl, FitI.i64 hi, b1, b3⟩
  obtain ⟨T, hT⟩ := r2_choose (R := RTombIs) (xs := ts) fun t ht => ⟨t.index, rfl, FitI.i64 (t2 t ht).1⟩
  exact ⟨⟨x.epoch, x.time, P, O, T⟩, rfl, rfl, FitI.i64 h1, FitI.u64 h2, ⟨ps, ⟨p1, p3⟩, hP⟩, ⟨os, ⟨o1, o3⟩, hO⟩, ts, ⟨t1, t3⟩, hT⟩
end
/-- Blocks from b on, but for the one that v has. -/
def Off (b : Nat) (v : Value) (k : Nat) : Prop := b ≤ k ∧ v.ownBlock ≠ some k
section
variable {w w' : World} {b : Nat} {v v' : Value}
theorem SlQ.app {α : Type} [Enc α] {hd : Hdr} {xs : List α} (hs : SlQ α (Off b v) w hd xs) (hg : w.grownBy w' v.ownBlock) (ho : v'.ownBlock = v.ownBlock ∨ v'.ownBlock = some w.heap.size) : SlQ α (Off b v') w' hd xs := by
  have hc : Chg (fun k => v.ownBlock = some k) w w' := Chg.of_grown hg fun k hk => hk
  have h1 : SlQ α (fun k => Off b v' k ∧ v.ownBlock ≠ some k) w hd xs := hs.mono fun k hk hq => by
    refine ⟨⟨hq.1, ?_⟩, hq.2⟩
    rcases ho with h | h
    · rw [h]; exact hq.2
    · rw [h]; intro e; injection e with e; omega
  exact (h1.chg hc fun k hk e => hk.2 e).mono fun k _ hk => hk.1
theorem CertIs.app {c : GCert} {e : GEntry} (h : CertIs (Off b v) w c e) (hg : w.grownBy w' v.ownBlock) (ho : v'.ownBlock = v.ownBlock ∨ v'.ownBlock = some w.heap.size) : CertIs (Off b v') w' c e := by
  obtain ⟨h1, h2, s, h3, h4⟩ := h
  exact ⟨h1, h2, s, h3, h4.app hg ho⟩
theorem PromIs.app {p : GPromise} {l : List GEntry} (h : PromIs (Off b v) w p l) (hg : w.grownBy w' v.ownBlock) (ho : v'.ownBlock = v.ownBlock ∨ v'.ownBlock = some w.heap.size) : PromIs (Off b v') w' p l := by
  obtain ⟨cs, h1, h2⟩ := h
  exact ⟨cs, h1.app hg ho, h2.mono fun _ _ h => h.app hg ho⟩
theorem OpenIs.app {o : GOpening} {m : Int × List U8} (h : OpenIs (Off b v) w o m) (hg : w.grownBy w' v.ownBlock) (ho : v'.ownBlock = v.ownBlock ∨ v'.ownBlock = some w.heap.size) : OpenIs (Off b v') w' o m := ⟨h.1, h.2.1.app hg ho, h.2.2⟩
theorem SlQ.off {α : Type} [Enc α] {Q : Nat → Prop} {hd : Hdr} {xs : List α} (hs : SlQ α Q w hd xs) (hQ : ∀ k, k < w.heap.size → Q k → Off b v k) : SlQ α (Off b v) w hd xs := hs.mono hQ
theorem CertIs.mono {Q Q' : Nat → Prop} {c : GCert} {e : GEntry} (h : CertIs Q w c e) (hQ : ∀ k, k < w.heap.size → Q k → Q' k) : CertIs Q' w c e := by
  obtain ⟨h1, h2, s, h3, h4⟩ := h
  exact ⟨h1, h2, s, h3, h4.mono hQ⟩
theorem PromIs.mono {Q Q' : Nat → Prop} {p : GPromise} {l : List GEntry} (h : PromIs Q w p l) (hQ : ∀ k, k < w.heap.size → Q k → Q' k) : PromIs Q' w p l := by
  obtain ⟨cs, h1, h2⟩ := h
  exact ⟨cs, h1.mono hQ, h2.mono fun _ _ h => h.mono hQ⟩
theorem OpenIs.mono {Q Q' : Nat → Prop} {o : GOpening} {m : Int × List U8} (h : OpenIs Q w o m) (hQ : ∀ k, k < w.heap.size → Q k → Q' k) : OpenIs Q' w o m := ⟨h.1, h.2.1.mono hQ, h.2.2⟩
/-- An own list's header: what it holds lies in blocks of its own. -/
theorem OwnS.slQ {α : Type} [Enc α] {base : Nat} {e : TypeId} {xs : List α} (h : OwnS w base e v xs) : ∃ hd : Hdr, v = hd.val ∧ hd.len = xs.length ∧ SlQ α (fun k => base ≤ k ∧ v.ownBlock = some k) w hd xs := by
  obtain ⟨A, c, rfl, ho, hc, hm⟩ := OwnS.ownA h
  refine ⟨⟨A, xs.length, c⟩, rfl, rfl, ho.sl, hc, hm, fun hn ad e => ?_⟩
  obtain ⟨g, e2, h2, _, _⟩ := OwnA.place ho hn
  simp only at e
  rw [e2] at e
  injection e with e
  subst e; subst e2
  exact ⟨h2, rfl⟩
end
end Go.Proofs.Yteockodnfempfaa
/- What Small makes of a batch. Conditions: those named in each theorem. -/
namespace Go.Proofs.Yteockodnfempfaa
open Go Go.RowKit Go.Gv

def certE (last : Int) (k : Nat) (r : RCert) : GEntry := ⟨⟨within r.name.client 3, 1 + within r.name.seq 6⟩, r.hash, IntKind.u64.wrap (last + IntKind.u64.wrap (IntKind.i64.wrap ((r.nst : Int) + k)))⟩
def promK (last : Int) (l : List RCert) (k : Nat) : List GEntry := ((l.take k).zipIdx).map fun p => certE last p.2 p.1
def promE (last : Int) (l : List RCert) : List GEntry := promK last l (min l.length 4)
theorem promK_zero (last : Int) (l : List RCert) : promK last l 0 = [] := rfl
theorem promK_succ {last : Int} {l : List RCert} {k : Nat} {r : RCert} (h : l[k]? = some r) : promK last l (k + 1) = promK last l k ++ [certE last k r] := by
  have hk : k < l.length := (List.getElem?_eq_some_iff.1 h).1
  unfold promK
  rw [List.take_add_one, h, Option.toList_some, List.zipIdx_append, List.map_append]
  simp [Nat.min_eq_left (Nat.le_of_lt hk)]
theorem promK_len (last : Int) (l : List RCert) (k : Nat) : (promK last l k).length ≤ k := by unfold promK; simp; omega
def smallM (R : RBatch) (epoch last : Int) : MBatch :=
  { epoch := if R.epoch.tmod 5 = 4 then R.epoch else epoch
    time := if R.time % 7 = 6 then R.time % 1152921504606846976 else last + 1 + R.time % 6
    proms := (R.proms.take 3).map (promE last)
    opens := (R.opens.take 4).map fun o => (within o.1 9 - 1, o.2.take 20)
    tombs := (R.tombs.take 3).map fun i => within i 9 - 1 }
theorem cert_name (c : GCert) (n : GName) : Enc.enc (⟨⟨n, c.commit.hash, c.commit.len, c.commit.sig⟩, c.stamps⟩ : GCert) = setSeg (Enc.enc c) 0 (Enc.enc n) := rfl
theorem cert_stamps (c : GCert) (h : Hdr) : Enc.enc (⟨c.commit, h⟩ : GCert) = (Enc.enc c).set 37 h.val := by
  change GCert.enc _ = (GCert.enc c).set 37 _
  unfold GCert.enc
  rw [List.set_append_right _ _ (by rw [GCommit.enc_len]; omega), GCommit.enc_len]
  rfl
theorem atPokeS {w : World} {g : Nat} {cs : List Value} (h : At w ⟨g, 0, none⟩ cs) {j : Nat} (hj : j < cs.length) (v : Value) : At (w.setCell ⟨g, j, none⟩ v) ⟨g, 0, none⟩ (cs.set j v) := by
  intro i u hu
  rw [addN, Nat.zero_add]
  have hi : i < cs.length := by have := (List.getElem?_eq_some_iff.1 hu).1; simpa using this
  have hx := h i _ (List.getElem?_eq_getElem hi)
  rw [addN, Nat.zero_add] at hx
  by_cases e : j = i
  · subst e
    rw [World.cell?_setCell_same w _ v hx]
    rw [List.getElem?_set_self hj] at hu; exact hu
  · rw [World.cell?_setCell_other w _ _ v (fun h => e (by injection h)), hx]
    rw [List.getElem?_set_ne e, List.getElem?_eq_getElem hi] at hu; exact hu
theorem atPutSegS {g j : Nat} : ∀ (vs : List Value) (i : Nat) (w : World) (cs : List Value), At w ⟨g, 0, none⟩ cs → j + i + vs.length ≤ cs.length → At (World.putFrom w ⟨g, j, none⟩ i vs) ⟨g, 0, none⟩ (setSeg cs (j + i) vs)
  | [], _, _, _, h, _ => h
  | v :: vs, i, w, cs, h, hl => by
    simp only [List.length_cons] at hl
    unfold World.putFrom setSeg
    rw [addN]
    exact atPutSegS vs (i + 1) _ _ (atPokeS h (by omega) v) (by rw [List.length_set]; omega)
theorem get?_putSegS {α : Type} [Enc α] {w : World} {g j : Nat} {x y : α} {vs : List Value} (h : get? α w ⟨g, 0, none⟩ = some x) (hl : j + vs.length ≤ Enc.n α) (hy : Enc.enc y = setSeg (Enc.enc x) j vs) : get? α (World.putCells w ⟨g, j, none⟩ vs) ⟨g, 0, none⟩ = some y := by
  rw [get?_iff] at h ⊢
  rw [hy]
  unfold World.putCells
  exact atPutSegS vs 0 w _ h (by rw [Enc.len]; omega)
theorem blkFree_putCells {w : World} {a : Addr} {cs : List Value} {k : Nat} : blkFree (World.putCells w a cs) k = blkFree w k := by
  unfold World.putCells
  have key : ∀ (cs : List Value) (i : Nat) (w : World), blkFree (World.putFrom w a i cs) k = blkFree w k := by
    intro cs
    induction cs with
    | nil => intro i w; rfl
    | cons v vs ih => intro i w; exact (ih _ _).trans (blkFree_setCell _ _ _)
  exact key cs 0 w
theorem Chg.putCells {w : World} {a : Addr} (cs : List Value) : Chg (fun k => k = a.block) w (World.putCells w a cs) := by
  unfold World.putCells
  have key : ∀ (cs : List Value) (i : Nat) (w : World), Chg (fun k => k = a.block) w (World.putFrom w a i cs) := by
    intro cs
    induction cs with
    | nil => intro i w; exact Chg.refl _ _
    | cons v vs ih => intro i w; exact (Chg.setCell (S := fun k => k = a.block) (p := a.add i) (add_block a i) v).tr (ih _ _)
  exact key cs 0 w
theorem within_lt (v : Int) {n : Int} (hn : 1 ≤ n) : 0 ≤ within v n ∧ within v n < n := by
  unfold within
  rw [if_neg (by omega)]
  exact ⟨Int.emod_nonneg _ (by omega), Int.emod_lt_of_pos _ (by omega)⟩
set_option maxRecDepth 100000 in
set_option maxHeartbeats 8000000 in
theorem smallB_any (x : GBatch) (R : RBatch) (epoch last : Int) (w : World) (hx : RawIs w x R) (hl0 : 0 ≤ last) (hl1 : last ≤ 2305843009213693952) :
    Calls Try.prog 43 #[x.val, .int .i64 epoch, .int .u64 last] w fun e w' => ∃ y : GBatch, e = .returned y.val ∧ BatchIs (fun k => w.heap.size ≤ k) w' y (smallM R epoch last) ∧ Bel w w' := by
  have HX := Lib.hid hx
  have hgx := get?_alloc (.cells (GBatch.enc default).toArray 74) (get?_new (w := w) 74 x)
  have hg6 := get?_new (w := w.alloc (.cells x.enc.toArray 74)) 74 (default : GBatch)
  rw [World.size_alloc] at hg6
  have hf3 : blkFree ((w.alloc (.cells x.enc.toArray 74)).alloc (.cells (GBatch.enc default).toArray 74)) w.heap.size = true := (blkFree_past _ _ (by simp)).trans (blkFree_new _ _ rfl)
  have hf6 : blkFree ((w.alloc (.cells x.enc.toArray 74)).alloc (.cells (GBatch.enc default).toArray 74)) (w.heap.size + 1) = true := blkFree_new _ _ (by simp)
  have HGX := Lib.hid hgx; have HG6 := Lib.hid hg6; have HF3 := Lib.hid hf3; have HF6 := Lib.hid hf6
  have HB := Lib.hid (((Bel.refl w).alloc (.cells x.enc.toArray 74)).alloc (.cells (GBatch.enc default).toArray 74))
  have hz2 : ((w.alloc (.cells x.enc.toArray 74)).alloc (.cells (GBatch.enc default).toArray 74)).heap.size = w.heap.size + 2 := by simp
  obtain ⟨ps, hps, hpr⟩ := hx.proms
  have HPS := Lib.hid hps; have HPR := Lib.hid hpr
  obtain ⟨n, hn⟩ : ∃ n, x.promises.len = n := ⟨_, rfl⟩
  have hnl : ps.length = n := by rw [← hn]; exact hps.1.1
  have hnb : n ≤ 9223372036854775807 := by have := hps.2.1; have := hps.2.2; unfold maxLen at *; omega
  clear hx hgx hg6 hf3 hf6 hps hpr
  go_enter Try.func43, Try.ntmps43
  go_upto_block 0 with fail
  generalize (w.alloc (.cells x.enc.toArray 74)).alloc (.cells (GBatch.enc default).toArray 74) = w2 at HGX HG6 HF3 HF6 HB hz2 ⊢
  go_cut [7, 8] (fun v _ wx => ∃ gps : List GPromise, OwnS wx w2.heap.size 92 v gps ∧ R2 (PromIs (Off w2.heap.size v) wx) gps (smallM R epoch last).proms ∧ Bel w2 wx)
  case first =>
    go_wp2_with fail
    go_loopw [7, 8] (fun v i wr => ∃ (k : Nat) (gps : List GPromise), k ≤ n ∧ k ≤ 3 ∧ i = .int .i64 k ∧ OwnS wr w2.heap.size 92 v gps ∧ R2 (PromIs (Off w2.heap.size v) wr) gps ((R.proms.take k).map (promE last)) ∧ Bel w2 wr) (fun _ i _ => 4 - (intOf i).toNat)
    case atStart => exact ⟨0, [], by omega, by omega, rfl, OwnS.nil _ _ _, trivial, Bel.refl _⟩
    case round =>
      obtain ⟨k, gps, hk, hk3, rfl, hown, hrel, hb⟩ := hrel
      have HO := Lib.hid hown; have HR := Lib.hid hrel; have HBK := Lib.hid hb; clear hown hrel hb
      have hzk := HBK.out.size
      have f2 : wr.cell? ⟨w.heap.size, 2, none⟩ = some (.slice x.promises.a n x.promises.cap) := by
        have := GBatch.at_promises (GB.get HBK.out HGX.out)
        unfold Hdr.val at this
        rw [hn] at this
        exact cell_off (by omega) this
      by_cases hcont : k < n ∧ k < 3
      · obtain ⟨hlt, hlt3⟩ := hcont
        have hpsk := (HPS.out.bel (HB.out.trans HBK.out)).1
        rw [hn] at hpsk
        obtain ⟨ad, p, hA, _, hpk, hgp⟩ := hpsk.at_ (k := k) hlt
        obtain ⟨l, hlk, hpl⟩ := HPR.out.at_ hpk
        obtain ⟨cs, hcs, hcr⟩ := hpl
        change get? GPromise wr (ad.add (k * 6)) = some p at hgp
        rw [hA] at f2
        have HF2 := Lib.hid f2; have HGP := Lib.hid hgp; have HCS := Lib.hid hcs; have HCR := Lib.hid hcr; have HLK := Lib.hid hlk
        obtain ⟨m, hmn⟩ : ∃ n, p.certs.len = n := ⟨_, rfl⟩
        have hml : l.length = m := by rw [← hcr.len, ← hmn]; exact hcs.1.1
        have hmb : m ≤ 9223372036854775807 := by have := hcs.2.1; have := hcs.2.2; unfold maxLen at *; omega
        have hlt2 : (k : Int) < (n : Int) := by omega
        have hlt33 : (k : Int) < 3 := by omega
        clear hpsk hpk hlk hcs hcr hgp hA
        obtain ⟨w3, h3⟩ : ∃ w3, w3 = wr := ⟨_, rfl⟩
        subst h3
        go_wp2_with fail
        clear f2
        have HB3 := Lib.hid HBK.out
        go_loopw [9, 10] (fun v i wr => ∃ (j : Nat) (gcs : List GCert), j ≤ m ∧ j ≤ 4 ∧ i = .int .i64 j ∧ OwnS wr w3.heap.size 89 v gcs ∧ R2 (CertIs (Off w3.heap.size v) wr) gcs (promK last l j) ∧ Bel w3 wr) (fun _ i _ => 5 - (intOf i).toNat)
        case atStart => exact ⟨0, [], by omega, by omega, rfl, OwnS.nil _ _ _, trivial, Bel.refl _⟩
        case round =>
          obtain ⟨j, gcs, hj, hj4, rfl, hown2, hrel2, hb2⟩ := hrel
          have HO2 := Lib.hid hown2; have HR2 := Lib.hid hrel2; have HBJ := Lib.hid hb2; clear hown2 hrel2 hb2
          have hzj := HBJ.out.size
          have f2 : wr.cell? ⟨w.heap.size, 2, none⟩ = some (.slice (some ad) n x.promises.cap) := GB.cell HBJ.out HF2.out
          have f3 : wr.cell? ⟨ad.block, (ad.add (k * 6)).off + 3, none⟩ = some (.slice p.certs.a m p.certs.cap) := by
            have := cell_off (by omega) (GPromise.at_certs (GB.get HBJ.out HGP.out))
            rw [add_block] at this
            unfold Hdr.val at this
            rw [hmn] at this
            exact this
          by_cases hcont : j < m ∧ j < 4
          · obtain ⟨hltj, hltj4⟩ := hcont
            have hcsj := (HCS.out.bel ((HB.out.trans HBK.out).trans HBJ.out)).1
            rw [hmn] at hcsj
            obtain ⟨bd, c, hB2, _, hcj, hgc⟩ := hcsj.at_ (k := j) hltj
            obtain ⟨rc, hrj, hc1, hc2, hc3, hc4, hc5, hc6⟩ := HCR.out.at_ hcj
            change get? GCert wr (bd.add (j * 38)) = some c at hgc
            rw [hB2] at f3
            have hltj2 : (j : Int) < (m : Int) := by omega
            have hltj44 : (j : Int) < 4 := by omega
            have hps := promK_succ (last := last) hrj
            have HPS2 := Lib.hid hps
            have hgy := get?_new (w := wr) 89 c
            have hfy : blkFree (wr.alloc (.cells c.enc.toArray 89)) wr.heap.size = true := blkFree_new _ _ rfl
            have HGY := Lib.hid hgy; have HFY := Lib.hid hfy
            have HBY := Lib.hid ((Bel.refl wr).alloc (.cells c.enc.toArray 89))
            have HOY := Lib.hid (HO2.out.alloc (.cells c.enc.toArray 89))
            have hzy : (wr.alloc (.cells c.enc.toArray 89)).heap.size = wr.heap.size + 1 := by simp
            clear hcsj hcj hrj hB2 hps hgy hfy
            go_wp2_with fail
            clear f2 f3
            generalize wr.alloc (.cells c.enc.toArray 89) = wy at HGY HFY HBY HOY hzy ⊢
            obtain ⟨q1, hq1⟩ : ∃ q, within rc.name.client 3 = q := ⟨_, rfl⟩
            obtain ⟨q2, hq2⟩ : ∃ q, within rc.name.seq 6 = q := ⟨_, rfl⟩
            have hq1b := within_lt rc.name.client (n := 3) (by omega)
            have hq2b := within_lt rc.name.seq (n := 6) (by omega)
            rw [hq1] at hq1b; rw [hq2] at hq2b
            have hwr : IntKind.i64.wrap (1 + q2) = 1 + q2 := IntWalk.i64_in _ (by omega)
            have HQ1 := Lib.hid hq1; have HQ2 := Lib.hid hq2
            have hcm := GCert.at_commit HGY.out
            rw [Addr.add_zero'] at hcm
            have hnm := GCommit.at_name hcm
            rw [Addr.add_zero', hc1] at hnm
            have f7 : wy.cell? ⟨wr.heap.size, 0, none⟩ = some (.int .i64 rc.name.client) := cell_zero (GName.at_client hnm)
            have f8 : wy.cell? ⟨wr.heap.size, 1, none⟩ = some (.int .i64 rc.name.seq) := cell_off (by omega) (GName.at_seq hnm)
            have HNM := Lib.hid hnm
            clear hcm hnm hq1 hq2
            refine wp_region_G GB [14] GB.rf (by kernel_rfl) ?_
            refine wpG_looks 1 15 [0,1,2,3,4,5,6,7,8,9,10,11,12,13] rfl GB.rf GB.tr (by kernel_rfl) (fun _ _ _ _ hd h => And.intro (hd ▸ And.left h) (And.right h)) rfl (by kernel_rfl) ?_
            intro ι W hne CW
            have g7 := fun z => (CW.out z).cell f7
            have g8 := fun z => (CW.out z).cell f8
            repeat (refine wpLooksG_step (fun K hK => ?_); go_simp; refine hK _ ?_; clear hK K)
            refine wpLooksG_step (fun K hK => ?_); go_simp
            refine ⟨_, fun z => quietG (within_is rc.name.client 3 q1 (W z) HQ1.out (by omega) hc4.1 hc4.2) (fun _ _ h => h), hK _ ?_⟩
            clear hK K
            repeat (refine wpLooksG_step (fun K hK => ?_); go_simp; refine hK _ ?_; clear hK K)
            refine wpLooksG_step (fun K hK => ?_); go_simp
            refine ⟨_, fun z => quietG (within_is rc.name.seq 6 q2 (W z) HQ2.out (by omega) hc5.1 hc5.2) (fun _ _ h => h), hK _ ?_⟩
            clear hK K
            repeat (refine wpLooksG_step (fun K hK => ?_); go_simp; refine hK _ ?_; clear hK K)
            refine wpLooksG_nil ?_
            clear g7 g8 f7 f8 CW hne W ι
            refine wpG_force 14 _ rfl (by kernel_rfl) rfl fun wa hwa K hK => ?_
            have k7 : get? GName wa ⟨wr.heap.size, 0, none⟩ = some rc.name := GB.get hwa.undrew HNM.out
            have k8 : blkFree wa wr.heap.size = true := (blkFree_keep (hwa.undrew.block _ (by omega))).trans HFY.out
            go_simp
            have HGB := Lib.hid (get?_putSegS (α := GCert) (g := wr.heap.size) (j := 0) (y := ⟨⟨⟨q1, 1 + q2⟩, c.commit.hash, c.commit.len, c.commit.sig⟩, c.stamps⟩) (vs := GName.enc ⟨q1, 1 + q2⟩) (GB.get hwa.undrew HGY.out) (by rw [GName.enc_len]; show 0 + 2 ≤ 38; omega) (cert_name c ⟨q1, 1 + q2⟩))
            have HBB := Lib.hid (show Bel wr (World.putCells wa ⟨wr.heap.size, 0, none⟩ (GName.enc ⟨q1, 1 + q2⟩)) from Below_putCells (a := ⟨wr.heap.size, 0, none⟩) (HBY.out.trans hwa.undrew) (Nat.le_refl _) _)
            have HFB := Lib.hid (show blkFree (World.putCells wa ⟨wr.heap.size, 0, none⟩ (GName.enc ⟨q1, 1 + q2⟩)) wr.heap.size = true from blkFree_putCells.trans k8)
            have hzb : (World.putCells wa ⟨wr.heap.size, 0, none⟩ (GName.enc ⟨q1, 1 + q2⟩)).heap.size = wa.heap.size := size_putCells _
            have hzwa := hwa.undrew.size
            generalize World.putCells wa ⟨wr.heap.size, 0, none⟩ (GName.enc ⟨q1, 1 + q2⟩) = wb at HGB HBB HFB hzb ⊢
            refine hK _ _ (fun h => absurd (by simp) h) ?_
            clear hK K k7 k8 hwa HGY HFY HBY HOY
            refine wpG_end (by kernel_rfl) (fun wn hwn => ?_) _
            have HGN := Lib.hid (GB.get hwn HGB.out)
            have HBN := Lib.hid (HBB.out.trans hwn)
            have hfn : blkFree wn wr.heap.size = true := (blkFree_keep (hwn.block _ (by omega))).trans HFB.out
            have HFN := Lib.hid hfn
            have hzwn := Bel.size hwn
            have f9 : wn.cell? ⟨wr.heap.size, 37, none⟩ = some (.slice c.stamps.a rc.nst c.stamps.cap) := by
              have := cell_off (by omega) (GCert.at_stamps HGN.out)
              unfold Hdr.val at this
              simp only [hc3] at this
              exact this
            clear hwn HGB HBB HFB hfn
            unfold maxLen at hc6
            obtain ⟨s1, hs1⟩ : ∃ s, IntKind.i64.wrap ((rc.nst : Int) + (j : Int)) = s := ⟨_, rfl⟩
            obtain ⟨s2, hs2⟩ : ∃ s, IntKind.u64.wrap s1 = s := ⟨_, rfl⟩
            obtain ⟨s3, hs3⟩ : ∃ s, IntKind.u64.wrap (last + s2) = s := ⟨_, rfl⟩
            have hcE : certE last j rc = ⟨⟨q1, 1 + q2⟩, rc.hash, s3⟩ := by unfold certE; rw [HQ1.out, HQ2.out, hs1, hs2, hs3]
            have HCE := Lib.hid hcE
            have hBo : Bel wr (wn.alloc (.cells (⟨0, default, default, s3, default⟩ : GStamp).enc.toArray 86)) := Bel.alloc HBN.out _
            have f10 : (wn.alloc (.cells (⟨0, default, default, s3, default⟩ : GStamp).enc.toArray 86)).cell? ⟨wr.heap.size, 37, none⟩ = some (.slice c.stamps.a rc.nst c.stamps.cap) := GB.cell ((Bel.refl wn).alloc _) f9
            have z10 : (wn.alloc (.cells (⟨0, default, default, s3, default⟩ : GStamp).enc.toArray 86)).frozen? ⟨wr.heap.size, 37, none⟩ = false := frozen_of_free (a := ⟨wr.heap.size, 37, none⟩) ((blkFree_past _ _ (by show wr.heap.size < _; omega)).trans HFN.out)
            have hg12 : get? GCert ((wn.alloc (.cells (⟨0, default, default, s3, default⟩ : GStamp).enc.toArray 86)).setCell ⟨wr.heap.size, 37, none⟩ (.slice (some ⟨wn.heap.size, 0, none⟩) 1 1)) ⟨wr.heap.size, 0, none⟩ = some ⟨⟨⟨q1, 1 + q2⟩, c.commit.hash, c.commit.len, c.commit.sig⟩, ⟨some ⟨wn.heap.size, 0, none⟩, 1, 1⟩⟩ := get?_poke (get?_alloc _ HGN.out) (cert_stamps ⟨⟨⟨q1, 1 + q2⟩, c.commit.hash, c.commit.len, c.commit.sig⟩, c.stamps⟩ ⟨some ⟨wn.heap.size, 0, none⟩, 1, 1⟩)
            have hsl : Sl GStamp (wn.alloc (.cells (⟨0, default, default, s3, default⟩ : GStamp).enc.toArray 86)) (wn.alloc (.cells (⟨0, default, default, s3, default⟩ : GStamp).enc.toArray 86)).heap.size (some ⟨wn.heap.size, 0, none⟩) 1 [⟨0, default, default, s3, default⟩] := Sl.new_ (by simp; rfl) rfl rfl (by simp)
            have hcp : Chg (fun q => q = wr.heap.size) (wn.alloc (.cells (⟨0, default, default, s3, default⟩ : GStamp).enc.toArray 86)) ((wn.alloc (.cells (⟨0, default, default, s3, default⟩ : GStamp).enc.toArray 86)).setCell ⟨wr.heap.size, 37, none⟩ (.slice (some ⟨wn.heap.size, 0, none⟩) 1 1)) := Chg.setCell (S := fun q => q = wr.heap.size) (p := ⟨wr.heap.size, 37, none⟩) rfl _
            have hsl2 := Sl.chg hcp hsl (fun _ ad e => by injection e with e; subst e; show ¬ wn.heap.size = wr.heap.size; omega)
            have hBp : Bel wr ((wn.alloc (.cells (⟨0, default, default, s3, default⟩ : GStamp).enc.toArray 86)).setCell ⟨wr.heap.size, 37, none⟩ (.slice (some ⟨wn.heap.size, 0, none⟩) 1 1)) := hBo.setCell (p := ⟨wr.heap.size, 37, none⟩) (Nat.le_refl _) _
            have hzp : ((wn.alloc (.cells (⟨0, default, default, s3, default⟩ : GStamp).enc.toArray 86)).setCell ⟨wr.heap.size, 37, none⟩ (.slice (some ⟨wn.heap.size, 0, none⟩) 1 1)).heap.size = wn.heap.size + 1 := by simp
            have HG12 := Lib.hid hg12; have HSL2 := Lib.hid hsl2; have HBP := Lib.hid hBp
            clear hcE hBo hsl hcp hsl2 hBp hg12
            go_upto_region 12 with fail
            generalize (wn.alloc (.cells (⟨0, default, default, s3, default⟩ : GStamp).enc.toArray 86)).setCell ⟨wr.heap.size, 37, none⟩ (.slice (some ⟨wn.heap.size, 0, none⟩) 1 1) = wp at HG12 HSL2 HBP hzp ⊢
            obtain ⟨c2, hc2e⟩ : ∃ c2 : GCert, (⟨⟨⟨q1, 1 + q2⟩, c.commit.hash, c.commit.len, c.commit.sig⟩, ⟨some ⟨wn.heap.size, 0, none⟩, 1, 1⟩⟩ : GCert) = c2 := ⟨_, rfl⟩
            rw [hc2e] at HG12
            have hg12 := HG12.out
            have hlg : gcs.length ≤ 4 := by rw [HR2.out.len]; exact Nat.le_trans (promK_len _ _ _) hj4
            have hown := (HO2.out.step HBP.out).alloc (.cells c2.enc.toArray 89)
            obtain ⟨v7, w7, hrun7, ho7, hg7, hob7⟩ := gAppend_S (P := Try.prog) ei90 (t := 90) hown (c := 1) (m := 1) (A := some ⟨wn.heap.size + 1, 0, none⟩) (Sl.new_ (B := wp.heap.size + 1) (xs := [c2]) (by simp; rfl) rfl hzp.symm (by omega)) (Nat.le_trans (Nat.add_le_add_right hlg 1) (by unfold maxLen; omega)) (Nat.le_trans (Nat.mul_le_mul_right _ (Nat.add_le_add_right hlg 1)) (by omega)) (by have := HBP.out.size; simp only [World.size_alloc]; omega) 90
            have hb7 : Bel w3 w7 := ((HBJ.out.trans HBP.out).alloc (.cells c2.enc.toArray 89)).appS hg7 hown (Nat.le_refl _)
            have hrel7 : R2 (CertIs (Off w3.heap.size v7) w7) (gcs ++ [c2]) (promK last l (j + 1)) := by
              rw [HPS2.out]
              have hal := (Bel.refl wp).alloc (.cells c2.enc.toArray 89)
              have hnew : CertIs (Off w3.heap.size u9) (wp.alloc (.cells c2.enc.toArray 89)) c2 (certE last j rc) := by
                rw [HCE.out, ← hc2e]
                refine ⟨rfl, hc2, ⟨0, default, default, s3, default⟩, rfl, ?_⟩
                refine SlQ.bel ⟨HSL2.out, Nat.le_refl _, by show 1 ≤ maxLen; unfold maxLen; omega, fun _ ad e => ?_⟩ (by rw [hc2e]; exact hal)
                have e' : some (⟨wn.heap.size, 0, none⟩ : Addr) = some ad := e
                injection e' with e'
                subst e'
                refine ⟨by show w3.heap.size ≤ wn.heap.size; omega, fun h => ?_⟩
                have := (HO2.out.lt _ h).2
                simp only at this
                omega
              exact R2.append (l2 := [c2]) (m2 := [certE last j rc]) ⟨hnew.app hg7 hob7, trivial⟩ (HR2.out.mono fun a b h => ((h.bel HBP.out).bel hal).app hg7 hob7)
            have HO7 := Lib.hid ho7; have HB7 := Lib.hid hb7; have HR7 := Lib.hid hrel7
            clear hown ho7 hg7 hob7 hb7 hrel7 hlg
            go_wp2_with fail
            exact ⟨⟨j + 1, gcs ++ [c2], by omega, by omega, by go_num, HO7.out, HR7.out, HB7.out⟩, by simp [intOf]; omega⟩
          · have hjm : j = min l.length 4 := by rw [hml]; omega
            obtain ⟨hc, rfl, hcl, hcq⟩ := OwnS.slQ HO2.out
            obtain ⟨pr, hpr⟩ : ∃ pr : GPromise, (⟨0, 0, 0, hc, default⟩ : GPromise) = pr := ⟨_, rfl⟩
            have hal := (Bel.refl wr).alloc (.cells pr.enc.toArray 92)
            have hown := (HO.out.step HBJ.out).alloc (.cells pr.enc.toArray 92)
            have hlg : gps.length ≤ 3 := by rw [HR.out.len, List.length_map]; exact Nat.le_trans (List.length_take_le _ _) hk3
            have hoff : ∀ q, w3.heap.size ≤ q → Off w2.heap.size u7 q := fun q hq => ⟨by omega, fun h => by have := (HO.out.lt _ h).2; omega⟩
            have hnew : PromIs (Off w2.heap.size u7) (wr.alloc (.cells pr.enc.toArray 92)) pr (promE last l) := by
              refine PromIs.bel ?_ hal
              rw [← hpr]
              refine ⟨gcs, hcq.mono fun q _ hq => hoff q hq.1, ?_⟩
              have := HR2.out
              unfold promE
              rw [← hjm]
              exact this.mono fun a b h => h.mono fun q _ hq => hoff q hq.1
            obtain ⟨v7, w7, hrun7, ho7, hg7, hob7⟩ := gAppend_S (P := Try.prog) ei70 (t := 70) hown (c := 1) (m := 1) (A := some ⟨wr.heap.size, 0, none⟩) (Sl.new_ (B := wr.heap.size + 1) (xs := [pr]) (by simp; rfl) rfl rfl (by omega)) (Nat.le_trans (Nat.add_le_add_right hlg 1) (by unfold maxLen; omega)) (Nat.le_trans (Nat.mul_le_mul_right _ (Nat.add_le_add_right hlg 1)) (by omega)) (by have := HBJ.out.size; simp only [World.size_alloc]; omega) 70
            have hb7 : Bel w2 w7 := ((HBK.out.trans HBJ.out).alloc (.cells pr.enc.toArray 92)).appS hg7 hown (Nat.le_refl _)
            have hrel7 : R2 (PromIs (Off w2.heap.size v7) w7) (gps ++ [pr]) ((R.proms.take (k + 1)).map (promE last)) := by
              rw [List.take_add_one, HLK.out, Option.toList_some, List.map_append, List.map_singleton]
              exact R2.append (l2 := [pr]) (m2 := [promE last l]) ⟨hnew.app hg7 hob7, trivial⟩ (HR.out.mono fun a b h => ((h.bel HBJ.out).bel hal).app hg7 hob7)
            have HO7 := Lib.hid ho7; have HB7 := Lib.hid hb7; have HR7 := Lib.hid hrel7; have HPR2 := Lib.hid hpr
            have hbd : (gBuild 92 #[(3, .slice hc.a hc.len hc.cap)]).run Try.prog wr = .ok (GPromise.val pr) wr := by rw [← hpr]; exact bd92_0 wr hc
            have hstop : (m : Int) ≤ (j : Int) ∨ ((j : Int) < (m : Int) ∧ 4 ≤ (j : Int)) := by omega
            clear hown ho7 hg7 hob7 hb7 hrel7 hlg hoff hnew hal hcl hcq hjm hcont
            rcases hstop with hs | ⟨hs, hs2⟩
            all_goals
              go_wp2_with fail
              exact ⟨⟨k + 1, gps ++ [pr], by omega, by omega, by go_num, HO7.out, HR7.out, HB7.out⟩, by simp [intOf]; omega⟩
      · have hkm : (R.proms.take k).map (promE last) = (smallM R epoch last).proms := by
          show _ = (R.proms.take 3).map (promE last)
          congr 1
          by_cases h3 : k = 3
          · rw [h3]
          · have hl : R.proms.length = k := by rw [← HPR.out.len, hnl]; omega
            rw [List.take_of_length_le (by omega), List.take_of_length_le (by omega)]
        have HRF := Lib.hid (hkm ▸ HR.out : R2 (PromIs (Off w2.heap.size u7) wr) gps (smallM R epoch last).proms)
        have hstop : (n : Int) ≤ (k : Int) ∨ ((k : Int) < (n : Int) ∧ 3 ≤ (k : Int)) := by omega
        clear hkm hcont
        rcases hstop with hs | ⟨hs, hs2⟩
        all_goals
          go_wp2_with fail
          go_meet
          exact ⟨gps, HO.out, HRF.out, HBK.out⟩
  case rest =>
    obtain ⟨gps, hown, hrel, hb⟩ := hcut
    obtain ⟨w3, rfl⟩ : ∃ w3 : World, w3 = wc := ⟨_, rfl⟩
    obtain ⟨hp, hpv, hpl, hpq⟩ := OwnS.slQ hown
    unfold Hdr.val at hpv
    subst hpv
    have hz3 := hb.size
    have hgx3 := GB.get hb HGX.out
    have hf3 : blkFree w3 w.heap.size = true := (blkFree_keep (hb.block _ (by omega))).trans HF3.out
    have hg6 := GB.get hb HG6.out
    have hf6 : blkFree w3 (w.heap.size + 1) = true := (blkFree_keep (hb.block _ (by omega))).trans HF6.out
    have f2 : w3.cell? ⟨w.heap.size, 2, none⟩ = some (.slice x.promises.a x.promises.len x.promises.cap) := cell_off (by omega) (GBatch.at_promises hgx3)
    have z2 : w3.frozen? ⟨w.heap.size, 2, none⟩ = false := frozen_of_free (a := ⟨w.heap.size, 2, none⟩) hf3
    have hgx4 : get? GBatch (w3.setCell ⟨w.heap.size, 2, none⟩ hp.val) ⟨w.heap.size, 0, none⟩ = some ⟨x.epoch, x.time, hp, x.openings, x.tombs⟩ := get?_poke hgx3 rfl
    have f0 : (w3.setCell ⟨w.heap.size, 2, none⟩ hp.val).cell? ⟨w.heap.size, 0, none⟩ = some (.int .i64 R.epoch) := by
      have := GBatch.at_epoch hgx4
      simp only [HX.out.epoch] at this
      exact cell_zero this
    have hc4 : Chg (fun q => q = w.heap.size) w3 (w3.setCell ⟨w.heap.size, 2, none⟩ hp.val) := Chg.setCell (S := fun q => q = w.heap.size) (p := ⟨w.heap.size, 2, none⟩) rfl _
    have hf4 : blkFree (w3.setCell ⟨w.heap.size, 2, none⟩ hp.val) w.heap.size = true := by rw [blkFree_setCell]; exact hf3
    have HGX4 := Lib.hid hgx4; have HC4 := Lib.hid hc4; have HF4 := Lib.hid hf4; have HG63 := Lib.hid hg6; have HF63 := Lib.hid hf6; have HB3 := Lib.hid hb
    have hpo : ∀ q, Off w2.heap.size hp.val q → q ≠ w.heap.size := fun q hq => by have := hq.1; omega
    have HPM := Lib.hid (show ∃ gs, SlQ GPromise (fun k => w.heap.size + 1 < k) w3 hp gs ∧ R2 (PromIs (fun k => w.heap.size + 1 < k) w3) gs (smallM R epoch last).proms from ⟨gps, hpq.mono fun q _ hq => by have := hq.1; omega, hrel.mono fun _ _ h => h.mono fun q _ hq => by have := hq.1; omega⟩)
    simp only [Hdr.val] at f0
    clear hgx3 hf3 hg6 hf6 hgx4 hc4 hf4 hown hrel hb hpl hpq hpo
    go_upto_if 90 with fail
    clear f2 z2
    have e4 : w3.setCell ⟨w.heap.size, 2, none⟩ (.slice hp.a hp.len hp.cap) = w3.setCell ⟨w.heap.size, 2, none⟩ hp.val := rfl
    rw [← e4] at HGX4 HC4 HF4
    clear e4
    generalize w3.setCell ⟨w.heap.size, 2, none⟩ (.slice hp.a hp.len hp.cap) = w4 at f0 HGX4 HC4 HF4 ⊢
    go_cut [] (fun wx => get? GBatch wx ⟨w.heap.size, 0, none⟩ = some ⟨(smallM R epoch last).epoch, x.time, hp, x.openings, x.tombs⟩ ∧ blkFree wx w.heap.size = true ∧ Chg (fun q => q = w.heap.size) w4 wx)
    case first =>
      by_cases h5 : R.epoch.tmod 5 = 4
      · have hE : (smallM R epoch last).epoch = x.epoch := by unfold smallM; simp only; rw [if_pos h5, HX.out.epoch]
        have HE := Lib.hid hE; clear hE
        go_wp2_with fail
        go_meet
        exact ⟨by rw [HE.out]; exact HGX4.out, HF4.out, Chg.refl _ _⟩
      · have hE : (smallM R epoch last).epoch = epoch := by unfold smallM; simp only; rw [if_neg h5]
        have HE := Lib.hid hE; clear hE
        have h5b : (R.epoch.tmod 5 != 4) = true := by simpa using h5
        have z0 : w4.frozen? ⟨w.heap.size, 0, none⟩ = false := frozen_of_free (a := ⟨w.heap.size, 0, none⟩) HF4.out
        clear h5
        go_wp2_with fail
        go_meet
        exact ⟨by rw [HE.out]; exact get?_poke HGX4.out rfl, by rw [blkFree_setCell]; exact HF4.out, Chg.setCell (S := fun q => q = w.heap.size) (p := ⟨w.heap.size, 0, none⟩) rfl _⟩
    case rest =>
      obtain ⟨hg5, hf5, hc5⟩ := hcut
      obtain ⟨w5, rfl⟩ : ∃ w5 : World, w5 = wc := ⟨_, rfl⟩
      have htR := HX.out.timeR
      have f1 : w5.cell? ⟨w.heap.size, 1, none⟩ = some (.int .u64 R.time) := by
        have := GBatch.at_time hg5
        simp only [HX.out.time] at this
        exact cell_off (by omega) this
      have z1 : w5.frozen? ⟨w.heap.size, 1, none⟩ = false := frozen_of_free (a := ⟨w.heap.size, 1, none⟩) hf5
      obtain ⟨r7, hr7⟩ : ∃ r, R.time % 7 = r := ⟨_, rfl⟩
      obtain ⟨r6, hr6⟩ : ∃ r, R.time % 6 = r := ⟨_, rfl⟩
      obtain ⟨rt, hrt⟩ : ∃ r, R.time % 1152921504606846976 = r := ⟨_, rfl⟩
      have t7 : R.time.tmod 7 = r7 := by rw [← hr7]; exact Int.tmod_eq_emod_of_nonneg htR.1
      have t6 : R.time.tmod 6 = r6 := by rw [← hr6]; exact Int.tmod_eq_emod_of_nonneg htR.1
      have tt : R.time.tmod 1152921504606846976 = rt := by rw [← hrt]; exact Int.tmod_eq_emod_of_nonneg htR.1
      have b6 : 0 ≤ r6 ∧ r6 < 6 := by omega
      obtain ⟨b60, b61⟩ := b6
      have hT1 : r7 = 6 → (smallM R epoch last).time = rt := fun h => by unfold smallM; simp only; rw [hr7, if_pos h, hrt]
      have hT2 : ¬ r7 = 6 → (smallM R epoch last).time = last + 1 + r6 := fun h => by unfold smallM; simp only; rw [hr7, if_neg h, hr6]
      have HG5 := Lib.hid hg5; have HF5 := Lib.hid hf5; have HC5 := Lib.hid hc5; have HT1 := Lib.hid hT1; have HT2 := Lib.hid hT2
      clear hg5 hf5 hc5 hr7 hr6 hrt htR hT1 hT2 f0
      go_upto_if 96 with fail
      go_cut [] (fun wx => get? GBatch wx ⟨w.heap.size, 0, none⟩ = some ⟨(smallM R epoch last).epoch, (smallM R epoch last).time, hp, x.openings, x.tombs⟩ ∧ blkFree wx w.heap.size = true ∧ Chg (fun q => q = w.heap.size) w5 wx)
      case first =>
        by_cases h7 : r7 = 6
        · have hE := HT1.out h7
          have HE := Lib.hid hE; clear hE
          have h7b : (r7 != 6) = false := by simpa using h7
          clear h7
          go_wp2_with fail
          go_meet
          exact ⟨by rw [HE.out]; exact get?_poke HG5.out rfl, by rw [blkFree_setCell]; exact HF5.out, Chg.setCell (S := fun q => q = w.heap.size) (p := ⟨w.heap.size, 1, none⟩) rfl _⟩
        · have hE := HT2.out h7
          have HE := Lib.hid hE; clear hE
          have h7b : (r7 != 6) = true := by simpa using h7
          clear h7
          go_wp2_with fail
          go_meet
          exact ⟨by rw [HE.out]; exact get?_poke HG5.out rfl, by rw [blkFree_setCell]; exact HF5.out, Chg.setCell (S := fun q => q = w.heap.size) (p := ⟨w.heap.size, 1, none⟩) rfl _⟩
      case rest =>
        obtain ⟨hg6, hf6, hc6⟩ := hcut
        obtain ⟨w6, rfl⟩ : ∃ w6 : World, w6 = wc := ⟨_, rfl⟩
        clear f1 z1 t7 t6 tt
        have HG6x := Lib.hid hg6; have HF6x := Lib.hid hf6
        have HC36 := Lib.hid (((HC4.out.tr HC5.out).tr hc6 : Chg (fun q => q = w.heap.size) w3 w6))
        have hz6 := HC36.out.size
        have hbw6 : Bel w w6 := Chg.bel2 (HB.out.trans HB3.out) HC36.out (fun k hk => by omega)
        have HBW6 := Lib.hid hbw6
        clear hg6 hf6 hc6 hbw6 HG5 HF5 HC5 HF4 HC4 HGX4 HT1 HT2
        obtain ⟨os, hos, hor⟩ := HX.out.opens
        obtain ⟨no, hno⟩ : ∃ n, x.openings.len = n := ⟨_, rfl⟩
        have hnol : os.length = no := by rw [← hno]; exact hos.1.1
        have hnob : no ≤ 9223372036854775807 := by have := hos.2.1; have := hos.2.2; unfold maxLen at *; omega
        have HOS := Lib.hid hos; have HOR := Lib.hid hor
        have f3 : w6.cell? ⟨w.heap.size, 3, none⟩ = some (.slice x.openings.a no x.openings.cap) := by
          have := GBatch.at_openings HG6x.out
          unfold Hdr.val at this
          simp only [hno] at this
          exact cell_off (by omega) this
        have HF3x := Lib.hid f3
        clear hos hor f3
        go_upto_block 4 with fail
        go_cut [12, 13] (fun v _ wx => ∃ gos : List GOpening, OwnS wx w6.heap.size 94 v gos ∧ R2 (OpenIs (Off w6.heap.size v) wx) gos (smallM R epoch last).opens ∧ Bel w6 wx)
        case first =>
          go_wp2_with fail
          go_loopw [12, 13] (fun v i wr => ∃ (k : Nat) (gos : List GOpening), k ≤ no ∧ k ≤ 4 ∧ i = .int .i64 k ∧ OwnS wr w6.heap.size 94 v gos ∧ R2 (OpenIs (Off w6.heap.size v) wr) gos ((R.opens.take k).map fun o => (within o.1 9 - 1, o.2.take 20)) ∧ Bel w6 wr) (fun _ i _ => 5 - (intOf i).toNat)
          case atStart => exact ⟨0, [], by omega, by omega, rfl, OwnS.nil _ _ _, trivial, Bel.refl _⟩
          case round =>
            obtain ⟨k, gos, hk, hk4, rfl, hown, hrel, hb⟩ := hrel
            have HO := Lib.hid hown; have HR := Lib.hid hrel; have HBK := Lib.hid hb; clear hown hrel hb
            have hzk := HBK.out.size
            have f3 : wr.cell? ⟨w.heap.size, 3, none⟩ = some (.slice x.openings.a no x.openings.cap) := GB.cell HBK.out HF3x.out
            by_cases hcont : k < no ∧ k < 4
            · obtain ⟨hlt, hlt4⟩ := hcont
              have hosk := (HOS.out.bel (HBW6.out.trans HBK.out)).1
              rw [hno] at hosk
              obtain ⟨ad, o, hA, _, hok, hgo⟩ := hosk.at_ (k := k) hlt
              obtain ⟨m, hmk, hm1, hm2, hm3⟩ := HOR.out.at_ hok
              change get? GOpening wr (ad.add (k * 34)) = some o at hgo
              rw [hA] at f3
              have hlt2 : (k : Int) < (no : Int) := by omega
              have hlt44 : (k : Int) < 4 := by omega
              have f4 : wr.cell? (ad.add (k * 34)) = some (.int .i64 m.1) := by
                have := GOpening.at_index hgo
                rw [hm1] at this
                exact cell_zero this
              have f5 : wr.cell? ⟨ad.block, (ad.add (k * 34)).off + 1, none⟩ = some (.slice o.payload.a o.payload.len o.payload.cap) := by
                have := cell_off (by omega) (GOpening.at_payload hgo)
                rwa [add_block] at this
              obtain ⟨q, hq⟩ : ∃ q, within m.1 9 = q := ⟨_, rfl⟩
              have hqb := within_lt m.1 (n := 9) (by omega)
              rw [hq] at hqb
              have hwr : IntKind.i64.wrap (q - 1) = q - 1 := IntWalk.i64_in _ (by omega)
              have HQ := Lib.hid hq; have HPY := Lib.hid (hm3.bel (HBW6.out.trans HBK.out)); have HMK := Lib.hid hmk
              clear hosk hok hgo hmk hm1 hm3 hq hA
              go_wp2_with fail
              refine wp_region_G GB [18] GB.rf (by kernel_rfl) ?_
              refine wpG_looks 5 20 [0,1,2,3,4,5,6,7,8,9,10,11,12,13,14] rfl GB.rf GB.tr (by kernel_rfl) (fun _ _ _ _ hd h => And.intro (hd ▸ And.left h) (And.right h)) rfl (by kernel_rfl) ?_
              intro ι W hne CW
              have g3 := fun z => (CW.out z).cell f3
              have g4 := fun z => (CW.out z).cell f4
              have g5 := fun z => (CW.out z).cell f5
              have hk0 : (0 : Int) ≤ (k : Int) := by omega
              repeat (refine wpLooksG_step (fun K hK => ?_); go_simp; refine hK _ ?_; clear hK K)
              refine wpLooksG_step (fun K hK => ?_); go_simp
              refine ⟨_, fun z => quietG (within_is m.1 9 q (W z) HQ.out (by omega) hm2.1 hm2.2) (fun _ _ h => h), hK _ ?_⟩
              clear hK K
              repeat (refine wpLooksG_step (fun K hK => ?_); go_simp; refine hK _ ?_; clear hK K)
              refine wpLooksG_nil ?_
              clear g3 g4 g5 f3 f4 f5 CW hne W ι
              refine wpG_force 15 _ rfl (by kernel_rfl) rfl fun wa hwa K hK => ?_
              go_simp
              refine (cutB_any o.payload.a o.payload.len o.payload.cap 20 m.2 wa wa.heap.size (HPY.out.1.stepB hwa.undrew) HPY.out.2.1 HPY.out.2.2 (by omega)).mono ?_
              rintro _ wb ⟨vb, rfl, hob, hbb⟩
              refine hK _ _ (fun _ => hbb) ?_
              clear hK K
              obtain ⟨hv, rfl, hvl, hvq⟩ := OwnS.slQ hob
              clear hvl
              refine wpG_force 16 _ rfl (by kernel_rfl) rfl fun wc hwc K hK => ?_
              obtain ⟨gop, hgop⟩ : ∃ g : GOpening, (⟨q - 1, hv, default⟩ : GOpening) = g := ⟨_, rfl⟩
              have hbd : (gBuild 94 #[(0, .int .i64 (q - 1)), (1, .slice hv.a hv.len hv.cap)]).run Try.prog wc = .ok (GOpening.val gop) wc := by rw [← hgop]; exact bd94_1 wc (q - 1) hv
              go_simp
              refine hK _ _ (fun _ => GB.rf _) ?_
              clear hK K hbd
              have hbc : Bel wr wc := (hwa.undrew.trans hbb).trans hwc
              have hnew0 : OpenIs (Off w6.heap.size u12) wc gop (within m.1 9 - 1, m.2.take 20) := by
                rw [← hgop, HQ.out]
                refine ⟨rfl, (hvq.bel hwc).mono fun z _ hz => ⟨?_, fun h => ?_⟩, ?_⟩
                · have h1 := hwa.undrew.size; have h2 := hz.1; omega
                · have h1 := hwa.undrew.size; have h2 := hz.1; have h3 := (HO.out.lt _ h).2; omega
                · show (m.2.take 20).length ≤ 1000000; rw [List.length_take]; omega
              have HN0 := Lib.hid hnew0; have HBC := Lib.hid hbc
              clear hnew0 hvq hob
              refine wpG_force 17 _ rfl (by kernel_rfl) rfl fun wd hwd K hK => ?_
              go_simp
              refine hK _ _ (fun _ => GB.al _ _) ?_
              clear hK K
              have hbd2 : Bel wc (wd.alloc (.cells gop.enc.toArray 94)) := Bel.alloc hwd _
              have hsl7 : Sl GOpening (wd.alloc (.cells gop.enc.toArray 94)) (wd.heap.size + 1) (some ⟨wd.heap.size, 0, none⟩) 1 [gop] := Sl.new_ (by simp; rfl) rfl rfl (by omega)
              have hzd : (wd.alloc (.cells gop.enc.toArray 94)).heap.size = wd.heap.size + 1 := by simp
              generalize wd.alloc (.cells gop.enc.toArray 94) = wd2 at hbd2 hsl7 hzd ⊢
              refine wpG_force 18 _ rfl (by kernel_rfl) rfl fun we hwe K hK => ?_
              have hbe : Bel wr we := (HBC.out.trans hbd2).trans hwe
              have hze := Bel.size hwe
              have hown := HO.out.step hbe
              have hlg : gos.length ≤ 4 := by rw [HR.out.len, List.length_map]; exact Nat.le_trans (List.length_take_le _ _) hk4
              obtain ⟨v7, w7, hrun7, ho7, hg7, hob7⟩ := gAppend_S (P := Try.prog) ei71 (t := 71) hown (c := 1) (m := 1) (A := some ⟨wd.heap.size, 0, none⟩) ((hsl7.below (Below.mono hwe (by omega))).more (B' := we.heap.size) (by omega)) (Nat.le_trans (Nat.add_le_add_right hlg 1) (by unfold maxLen; omega)) (Nat.le_trans (Nat.mul_le_mul_right _ (Nat.add_le_add_right hlg 1)) (by omega)) (by have := hbe.size; omega) 71
              go_simp
              have hb7 : Bel w6 w7 := (HBK.out.trans hbe).appS hg7 hown (Nat.le_refl _)
              have hrel7 : R2 (OpenIs (Off w6.heap.size v7) w7) (gos ++ [gop]) ((R.opens.take (k + 1)).map fun o => (within o.1 9 - 1, o.2.take 20)) := by
                rw [List.take_add_one, HMK.out, Option.toList_some, List.map_append, List.map_singleton]
                exact R2.append (l2 := [gop]) (m2 := [(within m.1 9 - 1, m.2.take 20)]) ⟨(HN0.out.bel (hbd2.trans hwe)).app hg7 hob7, trivial⟩ (HR.out.mono fun a b h => (h.bel hbe).app hg7 hob7)
              have HO7 := Lib.hid ho7; have HB7 := Lib.hid hb7; have HR7 := Lib.hid hrel7
              clear hown ho7 hg7 hob7 hb7 hrel7 hlg hrun7 hbe hbd2 hsl7 hwe hwd hwc hwa hbb
              refine hK _ _ (fun h => absurd (by simp) h) ?_
              clear hK K
              refine wpG_force 19 _ rfl (by kernel_rfl) rfl fun wf hwf K hK => ?_
              go_simp
              refine hK _ _ (fun _ => GB.rf _) ?_
              clear hK K
              refine wpG_end (by kernel_rfl) (fun wn hwn => ?_) _
              have hbn : Bel w7 wn := Bel.trans hwf hwn
              have HO8 := Lib.hid (HO7.out.step hbn); have HR8 := Lib.hid (HR7.out.mono fun a b h => OpenIs.bel h hbn); have HB8 := Lib.hid (HB7.out.trans hbn)
              clear hwf hwn hbn
              go_wp2_with fail
              exact ⟨⟨k + 1, gos ++ [gop], by omega, by omega, by go_num, HO8.out, HR8.out, HB8.out⟩, by simp [intOf]; omega⟩
            · have hkm : (R.opens.take k).map (fun o => (within o.1 9 - 1, o.2.take 20)) = (smallM R epoch last).opens := by
                show _ = (R.opens.take 4).map (fun o => (within o.1 9 - 1, o.2.take 20))
                congr 1
                by_cases h3 : k = 4
                · rw [h3]
                · have hl : R.opens.length = k := by rw [← HOR.out.len, hnol]; omega
                  rw [List.take_of_length_le (by omega), List.take_of_length_le (by omega)]
              have HRF := Lib.hid (hkm ▸ HR.out : R2 (OpenIs (Off w6.heap.size u12) wr) gos (smallM R epoch last).opens)
              have hstop : (no : Int) ≤ (k : Int) ∨ ((k : Int) < (no : Int) ∧ 4 ≤ (k : Int)) := by omega
              clear hkm hcont
              rcases hstop with hs | ⟨hs, hs2⟩
              all_goals
                go_wp2_with fail
                go_meet
                exact ⟨gos, HO.out, HRF.out, HBK.out⟩
        case rest =>
          obtain ⟨gos, hown, hrel, hb⟩ := hcut
          obtain ⟨w7, rfl⟩ : ∃ w7 : World, w7 = wc := ⟨_, rfl⟩
          obtain ⟨ho, hov, hol, hoq⟩ := OwnS.slQ hown
          unfold Hdr.val at hov
          subst hov
          have hz7 := hb.size
          have HOM := Lib.hid (show ∃ gs, SlQ GOpening (fun k => w.heap.size + 1 < k) w7 ho gs ∧ R2 (OpenIs (fun k => w.heap.size + 1 < k) w7) gs (smallM R epoch last).opens from ⟨gos, hoq.mono fun q _ hq => by have := hq.1; omega, hrel.mono fun _ _ h => h.mono fun q _ hq => by have := hq.1; omega⟩)
          have HB67 := Lib.hid hb
          clear hown hrel hb hol hoq
          obtain ⟨ts, hts, htr⟩ := HX.out.tombs
          obtain ⟨nt, hnt⟩ : ∃ n, x.tombs.len = n := ⟨_, rfl⟩
          have hntl : ts.length = nt := by rw [← hnt]; exact hts.1.1
          have hntb : nt ≤ 9223372036854775807 := by have := hts.2.1; have := hts.2.2; unfold maxLen at *; omega
          have HTS := Lib.hid hts; have HTR := Lib.hid htr
          have hg7 := GB.get HB67.out HG6x.out
          have hf7 : blkFree w7 w.heap.size = true := (blkFree_keep (HB67.out.block _ (by omega))).trans HF6x.out
          have f4 : w7.cell? ⟨w.heap.size, 4, none⟩ = some (.slice x.tombs.a nt x.tombs.cap) := by
            have := GBatch.at_tombs hg7
            unfold Hdr.val at this
            simp only [hnt] at this
            exact cell_off (by omega) this
          have HF4x := Lib.hid f4; have HG7 := Lib.hid hg7; have HF7 := Lib.hid hf7
          have HBW7 := Lib.hid (HBW6.out.trans HB67.out)
          clear hts htr f4 hg7 hf7 HOS HOR HF3x hnol hno
          go_upto_block 6 with fail
          go_cut [14, 15] (fun v _ wx => ∃ gts : List GTomb, OwnS wx w7.heap.size 97 v gts ∧ R2 TombIs gts (smallM R epoch last).tombs ∧ Bel w7 wx)
          case first =>
            go_wp2_with fail
            go_loopw [14, 15] (fun v i wr => ∃ (k : Nat) (gts : List GTomb), k ≤ nt ∧ k ≤ 3 ∧ i = .int .i64 k ∧ OwnS wr w7.heap.size 97 v gts ∧ R2 TombIs gts ((R.tombs.take k).map fun i => within i 9 - 1) ∧ Bel w7 wr) (fun _ i _ => 4 - (intOf i).toNat)
            case atStart => exact ⟨0, [], by omega, by omega, rfl, OwnS.nil _ _ _, trivial, Bel.refl _⟩
            case round =>
              obtain ⟨k, gts, hk, hk3, rfl, hown, hrel, hb⟩ := hrel
              have HO := Lib.hid hown; have HR := Lib.hid hrel; have HBK := Lib.hid hb; clear hown hrel hb
              have hzk := HBK.out.size
              have f4 : wr.cell? ⟨w.heap.size, 4, none⟩ = some (.slice x.tombs.a nt x.tombs.cap) := GB.cell HBK.out HF4x.out
              by_cases hcont : k < nt ∧ k < 3
              · obtain ⟨hlt, hlt3⟩ := hcont
                have htsk := (HTS.out.bel (HBW7.out.trans HBK.out)).1
                rw [hnt] at htsk
                obtain ⟨ad, o, hA, _, hok, hgo⟩ := htsk.at_ (k := k) hlt
                obtain ⟨m, hmk, hm1, hm2⟩ := HTR.out.at_ hok
                change get? GTomb wr (ad.add (k * 2)) = some o at hgo
                rw [hA] at f4
                have hlt2 : (k : Int) < (nt : Int) := by omega
                have hlt33 : (k : Int) < 3 := by omega
                have f5 : wr.cell? (ad.add (k * 2)) = some (.int .i64 m) := by
                  have := GTomb.at_index hgo
                  rw [hm1] at this
                  exact cell_zero this
                obtain ⟨q, hq⟩ : ∃ q, within m 9 = q := ⟨_, rfl⟩
                have hqb := within_lt m (n := 9) (by omega)
                rw [hq] at hqb
                have HQ := Lib.hid hq
                obtain ⟨gt, hgt⟩ : ∃ g : GTomb, (⟨q - 1, default⟩ : GTomb) = g := ⟨_, rfl⟩
                have hlg : gts.length ≤ 3 := by rw [HR.out.len, List.length_map]; exact Nat.le_trans (List.length_take_le _ _) hk3
                have hown := HO.out.alloc (.cells gt.enc.toArray 97)
                obtain ⟨v8, w8, hrun8, ho8, hg8, hob8⟩ := gAppend_S (P := Try.prog) ei72 (t := 72) hown (c := 1) (m := 1) (A := some ⟨wr.heap.size, 0, none⟩) (Sl.new_ (B := wr.heap.size + 1) (xs := [gt]) (by simp; rfl) rfl rfl (by omega)) (Nat.le_trans (Nat.add_le_add_right hlg 1) (by unfold maxLen; omega)) (Nat.le_trans (Nat.mul_le_mul_right _ (Nat.add_le_add_right hlg 1)) (by omega)) (by have := HBK.out.size; simp only [World.size_alloc]; omega) 72
                have hb8 : Bel w7 w8 := (HBK.out.alloc (.cells gt.enc.toArray 97)).appS hg8 hown (Nat.le_refl _)
                have hrel8 : R2 TombIs (gts ++ [gt]) ((R.tombs.take (k + 1)).map fun i => within i 9 - 1) := by
                  rw [List.take_add_one, hmk, Option.toList_some, List.map_append, List.map_singleton]
                  exact R2.append (l2 := [gt]) (m2 := [within m 9 - 1]) ⟨by rw [← hgt, hq]; rfl, trivial⟩ HR.out
                subst hgt
                have HO8 := Lib.hid ho8; have HB8 := Lib.hid hb8; have HR8 := Lib.hid hrel8
                clear htsk hA hok hmk hm1 hq hlg hown ho8 hg8 hob8 hb8 hrel8 hgo
                go_wp2_with fail
                refine (within_is m 9 q _ HQ.out (by omega) hm2.1 hm2.2).mono ?_
                rintro _ w9 ⟨rfl, h9⟩
                obtain rfl : wr = w9 := by first | exact h9 | exact h9.symm
                go_wp2_with fail
                exact ⟨⟨k + 1, gts ++ [⟨q - 1, default⟩], by omega, by omega, by go_num, HO8.out, HR8.out, HB8.out⟩, by simp [intOf]; omega⟩
              · have hkm : (R.tombs.take k).map (fun i => within i 9 - 1) = (smallM R epoch last).tombs := by
                  show _ = (R.tombs.take 3).map (fun i => within i 9 - 1)
                  congr 1
                  by_cases h3 : k = 3
                  · rw [h3]
                  · have hl : R.tombs.length = k := by rw [← HTR.out.len, hntl]; omega
                    rw [List.take_of_length_le (by omega), List.take_of_length_le (by omega)]
                have HRF := Lib.hid (hkm ▸ HR.out : R2 TombIs gts (smallM R epoch last).tombs)
                have hstop : (nt : Int) ≤ (k : Int) ∨ ((k : Int) < (nt : Int) ∧ 3 ≤ (k : Int)) := by omega
                clear hkm hcont
                rcases hstop with hs | ⟨hs, hs2⟩
                all_goals
                  go_wp2_with fail
                  go_meet
                  exact ⟨gts, HO.out, HRF.out, HBK.out⟩
          case rest =>
            obtain ⟨gts, hown, hrel, hb⟩ := hcut
            obtain ⟨w8, rfl⟩ : ∃ w8 : World, w8 = wc := ⟨_, rfl⟩
            obtain ⟨ht, htv, htl, htq⟩ := OwnS.slQ hown
            unfold Hdr.val at htv
            subst htv
            have hz8 := hb.size
            have hgt8 : SlQ GTomb (fun k => w.heap.size + 1 < k) w8 ht gts := htq.mono fun q _ hq => by have := hq.1; omega
            have HTM := Lib.hid hgt8; have HTR8 := Lib.hid hrel; have HB78 := Lib.hid hb
            have hg8 := GB.get hb HG7.out
            have hf8 : blkFree w8 w.heap.size = true := (blkFree_keep (hb.block _ (by omega))).trans HF7.out
            clear hown hrel htl htq hgt8
            have f3 : w8.cell? ⟨w.heap.size, 3, none⟩ = some x.openings.val := cell_off (by omega) (GBatch.at_openings hg8)
            have z3 : w8.frozen? ⟨w.heap.size, 3, none⟩ = false := frozen_of_free (a := ⟨w.heap.size, 3, none⟩) hf8
            have hg9 : get? GBatch (w8.setCell ⟨w.heap.size, 3, none⟩ ho.val) ⟨w.heap.size, 0, none⟩ = some ⟨(smallM R epoch last).epoch, (smallM R epoch last).time, hp, ho, x.tombs⟩ := get?_poke hg8 rfl
            have f4 : (w8.setCell ⟨w.heap.size, 3, none⟩ ho.val).cell? ⟨w.heap.size, 4, none⟩ = some x.tombs.val := cell_off (by omega) (GBatch.at_tombs hg9)
            have z4 : (w8.setCell ⟨w.heap.size, 3, none⟩ ho.val).frozen? ⟨w.heap.size, 4, none⟩ = false := frozen_of_free (a := ⟨w.heap.size, 4, none⟩) (by rw [blkFree_setCell]; exact hf8)
            have hg10 : get? GBatch ((w8.setCell ⟨w.heap.size, 3, none⟩ ho.val).setCell ⟨w.heap.size, 4, none⟩ ht.val) ⟨w.heap.size, 0, none⟩ = some ⟨(smallM R epoch last).epoch, (smallM R epoch last).time, hp, ho, ht⟩ := get?_poke hg9 rfl
            have hc10 : Chg (fun q => q = w.heap.size) w8 ((w8.setCell ⟨w.heap.size, 3, none⟩ ho.val).setCell ⟨w.heap.size, 4, none⟩ ht.val) := (Chg.setCell (S := fun q => q = w.heap.size) (p := ⟨w.heap.size, 3, none⟩) rfl _).tr (Chg.setCell (S := fun q => q = w.heap.size) (p := ⟨w.heap.size, 4, none⟩) rfl _)
            have hc310 : Chg (fun q => q = w.heap.size) w3 ((w8.setCell ⟨w.heap.size, 3, none⟩ ho.val).setCell ⟨w.heap.size, 4, none⟩ ht.val) := (HC36.out.tr (Chg.of_bel (HB67.out.trans HB78.out) _)).tr hc10
            have hg6y : get? GBatch ((w8.setCell ⟨w.heap.size, 3, none⟩ ho.val).setCell ⟨w.heap.size, 4, none⟩ ht.val) ⟨w.heap.size + 1, 0, none⟩ = some default := hc310.get HG63.out (fun e => by have : w.heap.size + 1 = w.heap.size := e; omega)
            have hf6y : blkFree ((w8.setCell ⟨w.heap.size, 3, none⟩ ho.val).setCell ⟨w.heap.size, 4, none⟩ ht.val) (w.heap.size + 1) = true := hc310.free HF63.out (by have := hb.size; omega) (fun e => by omega)
            have HG10 := Lib.hid hg10; have HC10 := Lib.hid hc10; have HC310 := Lib.hid hc310
            simp only [Hdr.val] at f3 z3 f4 z4 hg10 hg6y hf6y HC10 HC310
            clear hg9 hc10 hc310 hg8 HG10
            go_wp2_with fail
            have hput := get?_putSegS (α := GBatch) (g := w.heap.size + 1) (j := 0) (y := ⟨(smallM R epoch last).epoch, (smallM R epoch last).time, hp, ho, ht⟩) (vs := GBatch.enc ⟨(smallM R epoch last).epoch, (smallM R epoch last).time, hp, ho, ht⟩) hg6y (by rw [GBatch.enc_len]; show 0 + 5 ≤ 5; omega) rfl
            have hcz : Chg (fun q => q = w.heap.size ∨ q = w.heap.size + 1) _ _ := Chg.sub (Chg.putCells (w := (w8.setCell ⟨w.heap.size, 3, none⟩ (.slice ho.a ho.len ho.cap)).setCell ⟨w.heap.size, 4, none⟩ (.slice ht.a ht.len ht.cap)) (a := ⟨w.heap.size + 1, 0, none⟩) (GBatch.enc ⟨(smallM R epoch last).epoch, (smallM R epoch last).time, hp, ho, ht⟩)) (fun q hq => Or.inr hq)
            have HPUT := Lib.hid hput; have HCZ := Lib.hid hcz
            clear hput hcz
            generalize World.putCells ((w8.setCell ⟨w.heap.size, 3, none⟩ (.slice ho.a ho.len ho.cap)).setCell ⟨w.heap.size, 4, none⟩ (.slice ht.a ht.len ht.cap)) ⟨w.heap.size + 1, 0, none⟩ (GBatch.enc ⟨(smallM R epoch last).epoch, (smallM R epoch last).time, hp, ho, ht⟩) = wz at HPUT HCZ ⊢
            have h8z : Chg (fun q => q = w.heap.size ∨ q = w.heap.size + 1) w8 wz := (HC10.out.sub (fun q hq => Or.inl hq)).tr HCZ.out
            have h3z : Chg (fun q => q = w.heap.size ∨ q = w.heap.size + 1) w3 wz := (HC310.out.sub (fun q hq => Or.inl hq)).tr HCZ.out
            have hno2 : ∀ q, w.heap.size + 1 < q → ¬ (q = w.heap.size ∨ q = w.heap.size + 1) := fun q hq h => by omega
            refine bodyPost_ret (results_cell (x := (⟨(smallM R epoch last).epoch, (smallM R epoch last).time, hp, ho, ht⟩ : GBatch)) rfl rfl ag74 sz74 HPUT.out) rfl ⟨⟨(smallM R epoch last).epoch, (smallM R epoch last).time, hp, ho, ht⟩, by rw [GBatch.val_eq], ⟨rfl, rfl, ?_, ?_, ?_⟩, ?_⟩
            · obtain ⟨gs, h1, h2⟩ := HPM.out
              exact ⟨gs, (h1.chg h3z hno2).mono (fun q _ hq => by omega), h2.mono fun a b h => (h.chg h3z hno2).mono (fun q _ hq => by omega)⟩
            · obtain ⟨gs, h1, h2⟩ := HOM.out
              exact ⟨gs, ((h1.bel HB78.out).chg h8z hno2).mono (fun q _ hq => by omega), h2.mono fun a b h => ((h.bel HB78.out).chg h8z hno2).mono (fun q _ hq => by omega)⟩
            · exact ⟨gts, (HTM.out.chg h8z hno2).mono (fun q _ hq => by omega), HTR8.out⟩
            · exact Chg.bel2 (HB.out.trans HB3.out) h3z (fun q hq => by rcases hq with h | h <;> omega)
end Go.Proofs.Yteockodnfempfaa
/- Batches applied one behind the other: what stays true of a ledger. Conditions: those named in each theorem. -/
namespace Go.Proofs.Yteockodnfempfaa
open Go Go.RowKit Go.Gv Go.Sort

structure GoodM (M : MLedger) (k : Nat) : Prop where
  epoch0 : 0 ≤ M.epoch
  epoch1 : M.epoch ≤ (k : Int)
  last0 : 0 ≤ M.last
  last1 : M.last ≤ 1152921504606846976 + 8 * (k : Int)
  len : M.l.length ≤ 12 * k
  names : (namesL M).Nodup
  rise : (M.l.map (·.e)).Pairwise entLt
  below : ∀ m ∈ M.l, m.e.time ≤ M.last
  stat : ∀ m ∈ M.l, 1 ≤ m.status ∧ m.status ≤ 3
  pays : ∀ m ∈ M.l, m.pay.length ≤ 20
theorem GoodM.zero : GoodM ⟨0, 0, [], 0⟩ 0 := ⟨by simp, by simp, by simp, by simp, by simp, by simp [namesL], by simp, by simp, by simp, by simp⟩
theorem GoodM.mono {M : MLedger} {k j : Nat} (h : GoodM M k) (hk : k ≤ j) : GoodM M j := ⟨h.epoch0, by have := h.epoch1; omega, h.last0, by have := h.last1; omega, by have := h.len; omega, h.names, h.rise, h.below, h.stat, h.pays⟩
theorem endM_all {P : MPlace → Prop} {M : MLedger} {i st : Int} {pay : List U8} (h : ∀ m ∈ M.l, P m) (hn : ∀ m ∈ M.l, P ⟨m.e, st, pay⟩) : ∀ m ∈ (endM M i st pay).l, P m := by
  intro m hm
  unfold endM at hm
  split at hm
  · split at hm
    · rename_i m0 h0
      rcases List.mem_or_eq_of_mem_set hm with h1 | h1
      · exact h m h1
      · rw [h1]; exact hn m0 (List.mem_of_getElem? h0)
    · exact h m hm
  · exact h m hm
theorem openF_all {P : MPlace → Prop} : ∀ (l : List (Int × List U8)) (M : MLedger), (∀ m ∈ M.l, P m) → (∀ (m : MPlace) (o : Int × List U8), P m → o ∈ l → P ⟨m.e, 2, o.2⟩) → ∀ m ∈ (openF M l).l, P m
  | [], _, h, _ => h
  | o :: l, M, h, hn => openF_all l (endM M o.1 2 o.2) (endM_all h fun m hm => hn m o (h m hm) (by simp)) fun m o' hm ho => hn m o' hm (by simp [ho])
theorem tombF_all {P : MPlace → Prop} : ∀ (l : List Int) (M : MLedger), (∀ m ∈ M.l, P m) → (∀ m, P m → P ⟨m.e, 3, []⟩) → ∀ m ∈ (tombF M l).l, P m
  | [], _, h, _ => h
  | i :: l, M, h, hn => tombF_all l (endM M i 3 []) (endM_all h fun m hm => hn m (h m hm)) hn
theorem endedM_same (M : MLedger) (B : MBatch) : SameL M (endedM M B) := (openF_same _ _).tr (tombF_same _ _)
theorem appliedM_ents (M : MLedger) (B : MBatch) (es : List GEntry) : (appliedM M B es).l.map (·.e) = M.l.map (·.e) ++ es := by
  unfold appliedM
  simp only [List.map_append, (endedM_same M B).ents, List.map_map]
  congr 1
  have : (MPlace.e ∘ newP) = id := rfl
  rw [this, List.map_id]
theorem names_ents (M : MLedger) : namesL M = (M.l.map (·.e)).map (·.name) := by unfold namesL; rw [List.map_map]; rfl
/-- A batch taken. -/
theorem GoodM.apply {M : MLedger} {k : Nat} (h : GoodM M k) {B : MBatch} {es : List GEntry} (hes : EntriesOf M.last (namesL M) B es) (hB : M.last < B.time) (hT : B.time ≤ 1152921504606846976 + 8 * ((k : Int) + 1)) (hf : B.proms.flatten.length ≤ 12) (ho : ∀ o ∈ B.opens, o.2.length ≤ 20) : GoodM (appliedM M B es) (k + 1) := by
  obtain ⟨ha, hl⟩ := hes.are
  have hs := endedM_same M B
  have hall : ∀ {P : MPlace → Prop}, (∀ m ∈ M.l, P m) → (∀ (m : MPlace) (st : Int) (pay : List U8), P m → 2 ≤ st → st ≤ 3 → pay.length ≤ 20 → P ⟨m.e, st, pay⟩) → ∀ m ∈ (endedM M B).l, P m := fun h1 h2 =>
    tombF_all _ _ (openF_all _ _ h1 fun m o hm ho' => h2 m 2 o.2 hm (by omega) (by omega) (ho o ho')) fun m hm => h2 m 3 [] hm (by omega) (by omega) (by simp)
  have e1 := h.epoch0; have e2 := h.epoch1; have l0 := h.last0; have hlen := h.len
  refine ⟨by show 0 ≤ M.epoch + 1; omega, by show M.epoch + 1 ≤ ((k + 1 : Nat) : Int); omega, by show 0 ≤ B.time; omega, by show B.time ≤ _; push_cast; omega, ?_, ?_, ?_, ?_, ?_, ?_⟩
  · show ((endedM M B).l ++ es.map newP).length ≤ _
    rw [List.length_append, hs.len, List.length_map]
    omega
  · rw [names_ents, appliedM_ents, List.map_append, ← names_ents, List.nodup_append]
    refine ⟨h.names, ha.nodup, ?_⟩
    rintro a ha1 b hb1 rfl
    rw [List.mem_map] at hb1
    obtain ⟨e, he, rfl⟩ := hb1
    exact (ha.is e he).2.2 ha1
  · rw [appliedM_ents, List.pairwise_append]
    refine ⟨h.rise, ha.rise, fun a ha1 b hb1 => ?_⟩
    rw [List.mem_map] at ha1
    obtain ⟨m, hm, rfl⟩ := ha1
    have h1 := h.below m hm
    have h2 := (ha.is b hb1).1
    exact .inl (by omega)
  · intro m hm
    have hm' : m ∈ (endedM M B).l ++ es.map newP := hm
    rw [List.mem_append] at hm'
    show m.e.time ≤ B.time
    rcases hm' with hm' | hm'
    · have := hall (P := fun m => m.e.time ≤ M.last) h.below (fun m _ _ h _ _ _ => h) m hm'
      omega
    · rw [List.mem_map] at hm'
      obtain ⟨e, he, rfl⟩ := hm'
      exact (ha.is e he).2.1
  · intro m hm
    have hm' : m ∈ (endedM M B).l ++ es.map newP := hm
    rw [List.mem_append] at hm'
    rcases hm' with hm' | hm'
    · exact hall (P := fun m => 1 ≤ m.status ∧ m.status ≤ 3) h.stat (fun m st _ _ h1 h2 _ => ⟨by show 1 ≤ st; omega, h2⟩) m hm'
    · rw [List.mem_map] at hm'
      obtain ⟨e, he, rfl⟩ := hm'
      exact ⟨by show (1 : Int) ≤ 1; omega, by show (1 : Int) ≤ 3; omega⟩
  · intro m hm
    have hm' : m ∈ (endedM M B).l ++ es.map newP := hm
    rw [List.mem_append] at hm'
    rcases hm' with hm' | hm'
    · exact hall (P := fun m => m.pay.length ≤ 20) h.pays (fun m _ _ _ _ _ h => h) m hm'
    · rw [List.mem_map] at hm'
      obtain ⟨e, he, rfl⟩ := hm'
      exact Nat.zero_le _
theorem flatten_le {α : Type} (n : Nat) : ∀ (l : List (List α)), (∀ x ∈ l, x.length ≤ n) → l.flatten.length ≤ n * l.length
  | [], _ => by simp
  | x :: l, h => by
    have h1 := h x (by simp)
    have h2 := flatten_le n l fun y hy => h y (by simp [hy])
    rw [List.flatten_cons, List.length_append, List.length_cons, Nat.mul_add]
    omega
theorem small_flat (R : RBatch) (epoch last : Int) : (smallM R epoch last).proms.flatten.length ≤ 12 := by
  have h : ∀ x ∈ (smallM R epoch last).proms, x.length ≤ 4 := fun x hx => by
    unfold smallM at hx
    simp only [List.mem_map] at hx
    obtain ⟨l, _, rfl⟩ := hx
    exact Nat.le_trans (promK_len _ _ _) (by omega)
  have h2 : (smallM R epoch last).proms.length ≤ 3 := by unfold smallM; simp; omega
  have := flatten_le 4 _ h
  omega
theorem small_opens (R : RBatch) (epoch last : Int) : ∀ o ∈ (smallM R epoch last).opens, o.2.length ≤ 20 := fun o ho => by
  unfold smallM at ho
  simp only [List.mem_map] at ho
  obtain ⟨m, _, rfl⟩ := ho
  simp only [List.length_take]
  omega
theorem small_time (R : RBatch) (epoch last : Int) (k : Nat) (hl : last ≤ 1152921504606846976 + 8 * (k : Int)) : (smallM R epoch last).time ≤ 1152921504606846976 + 8 * ((k : Int) + 1) := by
  unfold smallM
  simp only
  split <;> omega
/-- What a batch makes of a ledger. -/
def StepM (M : MLedger) (B : MBatch) (M' : MLedger) : Prop := (refuseB M B = true ∧ M' = M) ∨ (refuseB M B = false ∧ ∃ es, EntriesOf M.last (namesL M) B es ∧ M' = appliedM M B es)
theorem StepM.good {M M' : MLedger} {R : RBatch} {k : Nat} (h : StepM M (smallM R M.epoch M.last) M') (hg : GoodM M k) : GoodM M' (k + 1) := by
  rcases h with ⟨_, rfl⟩ | ⟨hr, es, hes, rfl⟩
  · exact hg.mono (by omega)
  · exact hg.apply hes (ge_last hr).2 (small_time _ _ _ _ hg.last1) (small_flat _ _ _) (small_opens _ _ _)
def ApplyAny (g : Nat) (S U : Nat → Prop) (M : MLedger) (B : MBatch) (w : World) (e : Ending) (w' : World) : Prop :=
  ∃ (M' : MLedger) (n c : Int) (S' U' : Nat → Prop), StepM M B M' ∧ e = .returned (.tuple #[.int .i64 n, .int .i64 c]) ∧ LedgerIs w' g S' U' M' ∧ (∀ k, U' k → U k ∨ w.heap.size ≤ k) ∧ Chg S w w'
theorem apply_any (g : Nat) (S U : Nat → Prop) (M : MLedger) (x : GBatch) (B : MBatch) (Q : Nat → Prop) (w : World) (h : LedgerIs w g S U M) (hx : BatchIs Q w x B) (hQ : ∀ k, Q k → ¬ U k)
    (he0 : 0 ≤ M.epoch) (he1 : M.epoch ≤ 1000000) (hml : M.l.length ≤ 1000000) (hfl : B.proms.flatten.length ≤ 1000000) :
    Calls Try.prog 42 #[.pointer (some ⟨g, 0, none⟩), x.val] w (ApplyAny g S U M B w) := by
  cases hr : refuseB M B with
  | true =>
    refine (apply_no g S U M x B Q w h hx hr).mono ?_
    rintro e w' ⟨rfl, hL, hb⟩
    exact ⟨M, 0, 1, S, U, .inl ⟨hr, rfl⟩, rfl, hL, fun _ h => .inl h, Chg.of_bel hb S⟩
  | false =>
    refine (apply_yes g S U M x B Q w h hx hQ hr he0 he1 hml hfl).mono ?_
    rintro e w' ⟨es, S', U', hes, rfl, hL, hU, _, hC⟩
    exact ⟨appliedM M B es, _, _, S', U', .inr ⟨hr, es, hes, rfl⟩, rfl, hL, hU, hC⟩
/-- A ledger of a law's own: it lies above what was there. -/
def LedAt (w0 w : World) (g : Nat) (M : MLedger) : Prop := ∃ S U : Nat → Prop, LedgerIs w g S U M ∧ (∀ q, U q → w0.heap.size ≤ q) ∧ Bel w0 w
theorem LedAt.bel {w0 w w' : World} {g : Nat} {M : MLedger} (h : LedAt w0 w g M) (hb : Bel w w') : LedAt w0 w' g M := by
  obtain ⟨S, U, h1, h2, h3⟩ := h
  exact ⟨S, U, h1.bel hb, h2, h3.trans hb⟩
theorem LedAt.chg {w0 w w' : World} {g : Nat} {S U S' U' : Nat → Prop} {M M' : MLedger} (h1 : LedgerIs w g S U M) (h2 : ∀ q, U q → w0.heap.size ≤ q) (h3 : Bel w0 w) (hL : LedgerIs w' g S' U' M') (hU : ∀ k, U' k → U k ∨ w.heap.size ≤ k) (hC : Chg S w w') : LedAt w0 w' g M' :=
  ⟨S', U', hL, fun q hq => by
    have := h3.size
    rcases hU q hq with h | h
    · exact h2 q h
    · omega, Chg.bel2 h3 hC (fun k hk => h2 k (h1.sub k hk))⟩
theorem emptyBatch (Q : Nat → Prop) (w : World) (e t : Int) : BatchIs Q w ⟨e, t, default, default, default⟩ ⟨e, t, [], [], []⟩ :=
  ⟨rfl, rfl, ⟨[], ⟨Sl.nil, Nat.le_refl _, Nat.zero_le _, fun h => absurd h (Nat.lt_irrefl 0)⟩, trivial⟩, ⟨[], ⟨Sl.nil, Nat.le_refl _, Nat.zero_le _, fun h => absurd h (Nat.lt_irrefl 0)⟩, trivial⟩, [], ⟨Sl.nil, Nat.le_refl _, Nat.zero_le _, fun h => absurd h (Nat.lt_irrefl 0)⟩, trivial⟩
set_option maxRecDepth 100000 in
set_option maxHeartbeats 1000000 in
theorem wakesL_any (w : World) : Calls Try.prog 47 #[] w fun e w' => e = .returned (.bool true) ∧ Bel w w' := by
  go_enter Try.func47, Try.ntmps47
  go_wp2_with fail
  refine (newLedger_any _).mono ?_
  rintro _ w1 ⟨g, S, U, rfl, hL, hU, hb⟩
  have HL := Lib.hid hL; have HU := Lib.hid hU; have HB := Lib.hid hb; clear hL hU hb
  go_wp2_with fail
  refine (next_any g S U ⟨0, 0, [], 0⟩ _ HL.out).mono ?_
  rintro _ w2 ⟨rfl, n, rfl⟩
  have hn : nextB ⟨0, 0, [], 0⟩ = false := by decide
  simp only [hn]
  go_wp2_with fail
  have hb2 : Bel w (w1.drewN n) := HB.out.drewN n
  have HL2 := Lib.hid (HL.out.bel (bdN (Below.refl _ _) n : Bel w1 (w1.drewN n)))
  refine (apply_yes g S U ⟨0, 0, [], 0⟩ ⟨0, 5, default, default, default⟩ ⟨0, 5, [], [], []⟩ (fun _ => False) _ HL2.out (emptyBatch _ _ _ _) (fun _ h => h.elim) (by decide) (by decide) (by decide) (by decide) (by decide)).mono ?_
  rintro _ w3 ⟨es, S', U', hes, rfl, hL3, hU3, _, hC3⟩
  have he0 : es = [] := List.eq_nil_of_length_eq_zero (Nat.le_zero.1 hes.are.2)
  subst he0
  have HL3 := Lib.hid (show LedgerIs w3 g S' U' ⟨1, 5, [], 0⟩ from hL3)
  have HB3 := Lib.hid (show Bel w w3 from Chg.bel2 hb2 hC3 (fun k hk => HU.out k (HL.out.sub k hk)))
  clear hes hL3 hU3 hC3 hb2
  go_wp2_with fail
  refine (epoch_any g S' U' ⟨1, 5, [], 0⟩ _ HL3.out).mono ?_
  rintro _ w4 ⟨rfl, rfl⟩
  go_wp2_with fail
  refine (last_any g S' U' ⟨1, 5, [], 0⟩ _ HL3.out).mono ?_
  rintro _ w5 ⟨rfl, rfl⟩
  go_wp2_with fail
  go_ret
  exact ⟨rfl, HB3.out⟩
end Go.Proofs.Yteockodnfempfaa
/- LedgerRefuses returns true, walked. Conditions: those named in each theorem. -/
namespace Go.Proofs.Yteockodnfempfaa
open Go Go.RowKit Go.Gv Go.Sort

theorem LedAt.new {w w1 : World} {g : Nat} {S U : Nat → Prop} (hL : LedgerIs w1 g S U ⟨0, 0, [], 0⟩) (hU : ∀ k, U k → w.heap.size ≤ k) (hb : Bel w w1) : LedAt w w1 g ⟨0, 0, [], 0⟩ := ⟨S, U, hL, hU, hb⟩
set_option maxRecDepth 100000 in
set_option maxHeartbeats 3000000 in
theorem refuses_any (A : Option Addr) (n c : Nat) (xs : List GBatch) (ep tm : Int) (w : World) (hx : Sl GBatch w w.heap.size A n xs) (hox : ∀ x ∈ xs, ok74 w x) (hn : n ≤ maxLen)
    (_he1 : -9223372036854775808 ≤ ep) (_he2 : ep ≤ 9223372036854775807) (ht1 : 0 ≤ tm) (_ht2 : tm ≤ 18446744073709551615) :
    Calls Try.prog 12 #[.slice A n c, .int .i64 ep, .int .u64 tm] w fun e w' => e = .returned (.bool true) ∧ Bel w w' := by
  unfold maxLen at hn
  have HX := Lib.hid hx; have HOX := Lib.hid hox; clear hx hox
  go_enter Try.func12, Try.ntmps12
  go_upto_region 1 with fail
  go_upto_block 0 with (first | (go_at_call 41; refine (newLedger_any _).mono ?_; rintro _ w1 ⟨g, S, U, rfl, hL, hU, hb⟩; have HA := Lib.hid (LedAt.new hL hU hb); clear hL hU hb) | fail)
  go_cut [8] (fun _ wx => ∃ (k : Nat) (M : MLedger), k ≤ 5 ∧ LedAt w wx g M ∧ GoodM M k)
  case first =>
    go_wp2_with fail
    go_loopw [8] (fun i wr => ∃ (k : Nat) (M : MLedger), k ≤ n ∧ k ≤ 5 ∧ i = .int .i64 k ∧ LedAt w wr g M ∧ GoodM M k) (fun i _ => 6 - (intOf i).toNat)
    case atStart => exact ⟨0, _, by omega, by omega, rfl, HA.out, GoodM.zero⟩
    case round =>
      obtain ⟨k, M, hk, hk5, rfl, hA, hG⟩ := hrel
      have HG := Lib.hid hG
      obtain ⟨S2, U2, hL2, hU2, hB2⟩ := hA
      by_cases hcont : k < n ∧ k < 5
      · obtain ⟨hlt, hlt5⟩ := hcont
        obtain ⟨ad, x, rfl, _, hxk, hgx⟩ := (HX.out.stepB hB2).at_ (k := k) hlt
        obtain ⟨R, hR⟩ := raw_of (HOX.out x (List.mem_of_getElem? hxk))
        change get? GBatch wr (ad.add (k * 5)) = some x at hgx
        have HR := Lib.hid (hR.bel hB2); have HL := Lib.hid hL2; have HU := Lib.hid hU2; have HB := Lib.hid hB2
        have hUlt := Lib.hid hL2.ltU
        have hlt2 : (k : Int) < (n : Int) := by omega
        have hlt55 : (k : Int) < 5 := by omega
        clear hxk hR hL2 hU2 hB2 hG
        go_wp2_with fail
        have hlt3 : k < n := hlt
        have hk0 : (0 : Int) ≤ (k : Int) := by omega
        refine wp_region_G GB [10] GB.rf (by kernel_rfl) ?_
        refine wpG_looks 2 11 [0,1,2,3,4,5,6,7,8] rfl GB.rf GB.tr (by kernel_rfl) (fun _ _ _ _ hd h => And.intro (hd ▸ And.left h) (And.right h)) rfl (by kernel_rfl) ?_
        intro ι W hne CW
        have g1 := fun z => (CW.out z).get hgx
        repeat (refine wpLooksG_step (fun K hK => ?_); go_simp; refine hK _ ?_; clear hK K)
        refine wpLooksG_step (fun K hK => ?_); go_simp
        refine ⟨_, fun z => quietG (epoch_any g S2 U2 M (W z) (HL.out.bel (CW.out z).undrew)) (fun _ _ h => ⟨h.1, h.2.symm⟩), hK _ ?_⟩
        clear hK K
        repeat (refine wpLooksG_step (fun K hK => ?_); go_simp; refine hK _ ?_; clear hK K)
        refine wpLooksG_step (fun K hK => ?_); go_simp
        refine ⟨_, fun z => quietG (last_any g S2 U2 M (W z) (HL.out.bel (CW.out z).undrew)) (fun _ _ h => ⟨h.1, h.2.symm⟩), hK _ ?_⟩
        clear hK K
        refine wpLooksG_nil ?_
        clear g1 CW hne W ι
        refine wpG_force 9 _ rfl (by kernel_rfl) rfl fun wa hwa K hK => ?_
        go_simp
        refine (smallB_any x R M.epoch M.last wa (HR.out.bel hwa.undrew) HG.out.last0 (by have := HG.out.last1; omega)).mono ?_
        rintro _ wb ⟨y, rfl, hy, hbb⟩
        refine hK _ _ (fun _ => hbb) ?_
        clear hK K
        refine wpG_force 10 _ rfl (by kernel_rfl) rfl fun wc hwc K hK => ?_
        go_simp
        have hbc : Bel wr wc := (hwa.undrew.trans hbb).trans hwc
        refine (apply_any g S2 U2 M y (smallM R M.epoch M.last) (fun q => wa.heap.size ≤ q) wc (HL.out.bel hbc) (hy.bel hwc) (fun q hq hu => by have := hUlt.out q hu; have := hwa.undrew.size; omega) HG.out.epoch0 (by have := HG.out.epoch1; omega) (by have := HG.out.len; omega) (by have := small_flat R M.epoch M.last; omega)).mono ?_
        rintro _ wd ⟨M', n', c', S3, U3, hst, rfl, hL3, hU3, hC3⟩
        have HA3 := Lib.hid (LedAt.chg (HL.out.bel hbc) HU.out (HB.out.trans hbc) hL3 hU3 hC3)
        have HG3 := Lib.hid (hst.good HG.out)
        refine hK _ _ (fun h => absurd (by simp) h) ?_
        clear hK K hst hL3 hU3 hC3 hbc hwc hbb hy hwa hgx
        refine wpG_end (by kernel_rfl) (fun wn hwn => ?_) _
        have HA4 := Lib.hid (HA3.out.bel hwn); clear hwn
        go_wp2_with fail
        exact ⟨⟨k + 1, M', by omega, by omega, by go_num, HA4.out, HG3.out⟩, by simp [intOf]; omega⟩
      · have hstop : (n : Int) ≤ (k : Int) ∨ ((k : Int) < (n : Int) ∧ 5 ≤ (k : Int)) := by omega
        have HA2 := Lib.hid (⟨S2, U2, hL2, hU2, hB2⟩ : LedAt w wr g M)
        clear hcont hL2 hU2 hB2 hG
        rcases hstop with hs | ⟨hs, hs2⟩
        all_goals
          go_wp2_with fail
          go_meet
          exact ⟨k, M, hk5, HA2.out, HG.out⟩
  case rest =>
    obtain ⟨k, M, hk5, ⟨S2, U2, hL2, hU2, hB2⟩, hG⟩ := hcut
    obtain ⟨w2, rfl⟩ : ∃ w2 : World, w2 = wc := ⟨_, rfl⟩
    have HL2 := Lib.hid hL2; have HU2 := Lib.hid hU2; have HB2 := Lib.hid hB2
    have l0 := hG.last0
    have l1 : M.last ≤ 1152921504606847016 := by have := hG.last1; omega
    have e0 := hG.epoch0
    have e1 : M.epoch ≤ 5 := by have := hG.epoch1; omega
    have hll : M.l.length ≤ 60 := by have := hG.len; omega
    clear hL2 hU2 hB2 hG
    obtain ⟨r, hr⟩ : ∃ r, tm % (M.last + 1) = r := ⟨_, rfl⟩
    have hr0 : 0 ≤ r := by rw [← hr]; exact Int.emod_nonneg _ (by omega)
    have hr1 : r ≤ M.last := by have : r < M.last + 1 := by rw [← hr]; exact Int.emod_lt_of_pos _ (by omega)
                                omega
    have hrt : tm.tmod (M.last + 1) = r := by rw [← hr]; exact Int.tmod_eq_emod_of_nonneg ht1
    have hz1 : (0 : Int) < M.last + 1 := by omega
    have hz2 : ((M.last + 1) == 0) = false := by simp; omega
    clear hr
    obtain ⟨q, hq⟩ : ∃ q, M.l.length = q := ⟨_, rfl⟩
    have hN1 := Lib.hid (show ∀ e, ¬ e = M.epoch → refuseB M ⟨e, M.last + 5, [], [], []⟩ = true from fun e he => by unfold refuseB; simp [he])
    have hN2 := Lib.hid (show ∀ t, t ≤ M.last → refuseB M ⟨M.epoch, t, [], [], []⟩ = true from fun t ht => by unfold refuseB; simp [ht])
    have HQ := Lib.hid hq
    have hrest : ∀ (t : Int) (w3 : World), t ≤ M.last → Bel w2 w3 → Calls Try.prog 42 #[.pointer (some ⟨g, 0, none⟩), (⟨M.epoch, t, default, default, default⟩ : GBatch).val] w3 (ApplyNo g S2 U2 M w3) := fun t w3 ht hb => apply_no g S2 U2 M _ _ (fun _ => False) w3 (HL2.out.bel hb) (emptyBatch _ _ _ _) (hN2.out t ht)
    have HRS := Lib.hid hrest
    clear hrest hq
    by_cases hep : ep = M.epoch
    · have hb1 : (ep == M.epoch) = true := by simpa using hep
      by_cases htz : 0 < M.last
      · have htd : decide (0 < M.last) = true := by simpa using htz
        go_wp2_with fail
        refine (lenL_any g S2 U2 M _ HL2.out).mono ?_
        rw [HQ.out]
        rintro _ w3 ⟨rfl, h3⟩
        obtain rfl : w2 = w3 := by first | exact h3 | exact h3.symm
        go_wp2_with fail
        refine (epoch_any g S2 U2 M _ HL2.out).mono ?_
        rintro _ w3 ⟨rfl, h3⟩
        obtain rfl : w2 = w3 := by first | exact h3 | exact h3.symm
        go_wp2_with fail
        refine (last_any g S2 U2 M _ HL2.out).mono ?_
        rintro _ w3 ⟨rfl, h3⟩
        obtain rfl : w2 = w3 := by first | exact h3 | exact h3.symm
        go_wp2_with fail
        refine (apply_no g S2 U2 M ⟨M.epoch + 1, M.last + 5, default, default, default⟩ _ (fun _ => False) _ HL2.out (emptyBatch _ _ _ _) (hN1.out _ (by omega))).mono ?_
        rintro _ w4 ⟨rfl, hL4, hb4⟩
        have HB4 := Lib.hid hb4; clear hL4 hb4
        go_wp2_with fail
        refine (HRS.out r w4 (hr1) HB4.out).mono ?_
        rintro _ w5 ⟨rfl, hL5, hb5⟩
        have HL5 := Lib.hid hL5; have HB5 := Lib.hid ((HB2.out.trans HB4.out).trans hb5); clear hL5 hb5
        go_wp2_with fail
        refine (lenL_any g S2 U2 M _ HL5.out).mono ?_
        rw [HQ.out]
        rintro _ w6 ⟨rfl, h3⟩
        obtain rfl : w5 = w6 := by first | exact h3 | exact h3.symm
        go_wp2_with fail
        refine (epoch_any g S2 U2 M _ HL5.out).mono ?_
        rintro _ w6 ⟨rfl, h3⟩
        obtain rfl : w5 = w6 := by first | exact h3 | exact h3.symm
        go_wp2_with fail
        refine (last_any g S2 U2 M _ HL5.out).mono ?_
        rintro _ w6 ⟨rfl, h3⟩
        obtain rfl : w5 = w6 := by first | exact h3 | exact h3.symm
        go_wp2_with fail
        refine (wakesL_any _).mono ?_
        rintro _ w7 ⟨rfl, hb7⟩
        have HB7 := Lib.hid (HB5.out.trans hb7); clear hb7
        go_wp2_with fail
        go_ret
        exact ⟨rfl, HB7.out⟩
      · have htd : decide (0 < M.last) = false := by simpa using htz
        clear htz
        go_wp2_with fail
        refine (lenL_any g S2 U2 M _ HL2.out).mono ?_
        rw [HQ.out]
        rintro _ w3 ⟨rfl, h3⟩
        obtain rfl : w2 = w3 := by first | exact h3 | exact h3.symm
        go_wp2_with fail
        refine (epoch_any g S2 U2 M _ HL2.out).mono ?_
        rintro _ w3 ⟨rfl, h3⟩
        obtain rfl : w2 = w3 := by first | exact h3 | exact h3.symm
        go_wp2_with fail
        refine (last_any g S2 U2 M _ HL2.out).mono ?_
        rintro _ w3 ⟨rfl, h3⟩
        obtain rfl : w2 = w3 := by first | exact h3 | exact h3.symm
        go_wp2_with fail
        refine (apply_no g S2 U2 M ⟨M.epoch + 1, M.last + 5, default, default, default⟩ _ (fun _ => False) _ HL2.out (emptyBatch _ _ _ _) (hN1.out _ (by omega))).mono ?_
        rintro _ w4 ⟨rfl, hL4, hb4⟩
        have HB4 := Lib.hid hb4; clear hL4 hb4
        go_wp2_with fail
        refine (HRS.out 0 w4 (l0) HB4.out).mono ?_
        rintro _ w5 ⟨rfl, hL5, hb5⟩
        have HL5 := Lib.hid hL5; have HB5 := Lib.hid ((HB2.out.trans HB4.out).trans hb5); clear hL5 hb5
        go_wp2_with fail
        refine (lenL_any g S2 U2 M _ HL5.out).mono ?_
        rw [HQ.out]
        rintro _ w6 ⟨rfl, h3⟩
        obtain rfl : w5 = w6 := by first | exact h3 | exact h3.symm
        go_wp2_with fail
        refine (epoch_any g S2 U2 M _ HL5.out).mono ?_
        rintro _ w6 ⟨rfl, h3⟩
        obtain rfl : w5 = w6 := by first | exact h3 | exact h3.symm
        go_wp2_with fail
        refine (last_any g S2 U2 M _ HL5.out).mono ?_
        rintro _ w6 ⟨rfl, h3⟩
        obtain rfl : w5 = w6 := by first | exact h3 | exact h3.symm
        go_wp2_with fail
        refine (wakesL_any _).mono ?_
        rintro _ w7 ⟨rfl, hb7⟩
        have HB7 := Lib.hid (HB5.out.trans hb7); clear hb7
        go_wp2_with fail
        go_ret
        exact ⟨rfl, HB7.out⟩
    · have hb1 : (ep == M.epoch) = false := by simpa using hep
      have HEP := Lib.hid hep
      clear hep
      by_cases htz : 0 < M.last
      · have htd : decide (0 < M.last) = true := by simpa using htz
        go_wp2_with fail
        refine (lenL_any g S2 U2 M _ HL2.out).mono ?_
        rw [HQ.out]
        rintro _ w3 ⟨rfl, h3⟩
        obtain rfl : w2 = w3 := by first | exact h3 | exact h3.symm
        go_wp2_with fail
        refine (epoch_any g S2 U2 M _ HL2.out).mono ?_
        rintro _ w3 ⟨rfl, h3⟩
        obtain rfl : w2 = w3 := by first | exact h3 | exact h3.symm
        go_wp2_with fail
        refine (last_any g S2 U2 M _ HL2.out).mono ?_
        rintro _ w3 ⟨rfl, h3⟩
        obtain rfl : w2 = w3 := by first | exact h3 | exact h3.symm
        go_wp2_with fail
        refine (apply_no g S2 U2 M ⟨ep, M.last + 5, default, default, default⟩ _ (fun _ => False) _ HL2.out (emptyBatch _ _ _ _) (hN1.out _ (HEP.out))).mono ?_
        rintro _ w4 ⟨rfl, hL4, hb4⟩
        have HB4 := Lib.hid hb4; clear hL4 hb4
        go_wp2_with fail
        refine (HRS.out r w4 (hr1) HB4.out).mono ?_
        rintro _ w5 ⟨rfl, hL5, hb5⟩
        have HL5 := Lib.hid hL5; have HB5 := Lib.hid ((HB2.out.trans HB4.out).trans hb5); clear hL5 hb5
        go_wp2_with fail
        refine (lenL_any g S2 U2 M _ HL5.out).mono ?_
        rw [HQ.out]
        rintro _ w6 ⟨rfl, h3⟩
        obtain rfl : w5 = w6 := by first | exact h3 | exact h3.symm
        go_wp2_with fail
        refine (epoch_any g S2 U2 M _ HL5.out).mono ?_
        rintro _ w6 ⟨rfl, h3⟩
        obtain rfl : w5 = w6 := by first | exact h3 | exact h3.symm
        go_wp2_with fail
        refine (last_any g S2 U2 M _ HL5.out).mono ?_
        rintro _ w6 ⟨rfl, h3⟩
        obtain rfl : w5 = w6 := by first | exact h3 | exact h3.symm
        go_wp2_with fail
        refine (wakesL_any _).mono ?_
        rintro _ w7 ⟨rfl, hb7⟩
        have HB7 := Lib.hid (HB5.out.trans hb7); clear hb7
        go_wp2_with fail
        go_ret
        exact ⟨rfl, HB7.out⟩
      · have htd : decide (0 < M.last) = false := by simpa using htz
        clear htz
        go_wp2_with fail
        refine (lenL_any g S2 U2 M _ HL2.out).mono ?_
        rw [HQ.out]
        rintro _ w3 ⟨rfl, h3⟩
        obtain rfl : w2 = w3 := by first | exact h3 | exact h3.symm
        go_wp2_with fail
        refine (epoch_any g S2 U2 M _ HL2.out).mono ?_
        rintro _ w3 ⟨rfl, h3⟩
        obtain rfl : w2 = w3 := by first | exact h3 | exact h3.symm
        go_wp2_with fail
        refine (last_any g S2 U2 M _ HL2.out).mono ?_
        rintro _ w3 ⟨rfl, h3⟩
        obtain rfl : w2 = w3 := by first | exact h3 | exact h3.symm
        go_wp2_with fail
        refine (apply_no g S2 U2 M ⟨ep, M.last + 5, default, default, default⟩ _ (fun _ => False) _ HL2.out (emptyBatch _ _ _ _) (hN1.out _ (HEP.out))).mono ?_
        rintro _ w4 ⟨rfl, hL4, hb4⟩
        have HB4 := Lib.hid hb4; clear hL4 hb4
        go_wp2_with fail
        refine (HRS.out 0 w4 (l0) HB4.out).mono ?_
        rintro _ w5 ⟨rfl, hL5, hb5⟩
        have HL5 := Lib.hid hL5; have HB5 := Lib.hid ((HB2.out.trans HB4.out).trans hb5); clear hL5 hb5
        go_wp2_with fail
        refine (lenL_any g S2 U2 M _ HL5.out).mono ?_
        rw [HQ.out]
        rintro _ w6 ⟨rfl, h3⟩
        obtain rfl : w5 = w6 := by first | exact h3 | exact h3.symm
        go_wp2_with fail
        refine (epoch_any g S2 U2 M _ HL5.out).mono ?_
        rintro _ w6 ⟨rfl, h3⟩
        obtain rfl : w5 = w6 := by first | exact h3 | exact h3.symm
        go_wp2_with fail
        refine (last_any g S2 U2 M _ HL5.out).mono ?_
        rintro _ w6 ⟨rfl, h3⟩
        obtain rfl : w5 = w6 := by first | exact h3 | exact h3.symm
        go_wp2_with fail
        refine (wakesL_any _).mono ?_
        rintro _ w7 ⟨rfl, hb7⟩
        have HB7 := Lib.hid (HB5.out.trans hb7); clear hb7
        go_wp2_with fail
        go_ret
        exact ⟨rfl, HB7.out⟩
end Go.Proofs.Yteockodnfempfaa
