/- AppSale: the walk. Conditions: those named in each theorem. -/
import Derived.Test.YtgeimnknmljplaaDoorP9
import Derived.Lib.SplitLaws
import Derived.Deep.CutBlock
/- AppSale in plain words: what each payload says. Conditions: those named in each theorem. -/
namespace Go.Proofs.YtgeimnknmljplaaDoor
open Go Go.RowKit Go.Gv Go.Sort Go.Proofs

/-- A list's words, by one blank each. -/
def headP (p : List UInt8) : List (List UInt8) → List (List UInt8)
  | [] => [p]
  | h :: t => (p ++ h) :: t
def wl : List UInt8 → List (List UInt8)
  | [] => [[]]
  | b :: l => if b = 32 then [] :: wl l else headP [b] (wl l)
theorem wl_ne : ∀ l, wl l ≠ []
  | [] => by simp [wl]
  | b :: l => by
    unfold wl
    split
    · simp
    · cases h : wl l with
      | nil => exact absurd h (wl_ne l)
      | cons a t => simp [headP]
theorem headP_nil {X : List (List UInt8)} (h : X ≠ []) : headP [] X = X := by
  cases X with
  | nil => exact absurd rfl h
  | cons a t => rfl
theorem headP_two (p q : List UInt8) {X : List (List UInt8)} (h : X ≠ []) : headP p (headP q X) = headP (p ++ q) X := by
  cases X with
  | nil => exact absurd rfl h
  | cons a t => simp [headP]
theorem split_wl : ∀ l : List UInt8, Lib.splitK [32] 0 (Lib.count l [32]) l = wl l
  | [] => by rw [Lib.count_miss (by simp [Lib.index])]; rfl
  | b :: l => by
    have ih := split_wl l
    have hix : b ≠ 32 → Lib.index (b :: l) [32] = if Lib.index l [32] == -1 then -1 else Lib.index l [32] + 1 := fun h => by
      have hp : ([32] : List UInt8).isPrefixOf (b :: l) = false := by simp [List.isPrefixOf, Ne.symm h]
      rw [Lib.index, hp]; simp
    by_cases hb : b = 32
    · subst hb
      have hi0 : Lib.index ((32 : UInt8) :: l) [32] = 0 := by rw [Lib.index]; simp [List.isPrefixOf]
      rw [Lib.count_cons_eq, Nat.add_comm, Lib.splitK, hi0]
      simp only [wl, if_true]
      rw [if_neg (by decide), ← ih]
      rfl
    · rw [Lib.count_cons_ne b 32 l hb]
      unfold wl
      rw [if_neg hb, ← ih]
      by_cases hm : Lib.index l [32] = -1
      · rw [Lib.count_miss hm]; rfl
      · have hge := Lib.index_ge l [32]
        obtain ⟨j, hj⟩ : ∃ j : Nat, Lib.index l [32] = j := ⟨(Lib.index l [32]).toNat, by omega⟩
        have hi2 : Lib.index (b :: l) [32] = ((j + 1 : Nat) : Int) := by rw [hix hb, if_neg (fun e => hm (beq_iff_eq.1 e)), hj]; omega
        rw [Lib.count_hit (by simp) hj, Nat.add_comm]
        unfold Lib.splitK
        rw [hi2, hj, if_neg (by simp; omega), if_neg (by simp)]
        simp [headP]
theorem words_wl (s : ByteArray) : (wordsM s).map (fun x => x.data.toList) = wl s.data.toList := by
  unfold wordsM
  rw [Lib.splitB_data]
  exact split_wl s.data.toList
theorem words_of {s : ByteArray} {L : List ByteArray} (h : L.map (fun x => x.data.toList) = wl s.data.toList) : L = wordsM s := by
  rw [← words_wl] at h
  exact (List.map_inj_right (fun a b e => ByteArray.ext (Array.toList_inj.1 e))).1 h
theorem wl_cons {b : UInt8} {l : List UInt8} (hb : b ≠ 32) : wl (b :: l) = headP [b] (wl l) := by
  conv => lhs; unfold wl
  rw [if_neg hb]
def NoBlank (p : List UInt8) : Bool := p.all fun b => b != 32
theorem wl_cut : ∀ (p q : List UInt8), NoBlank p = true → wl (p ++ 32 :: q) = p :: wl q
  | [], q, _ => by simp [wl]
  | b :: p, q, h => by
    unfold NoBlank at h
    rw [List.all_cons, Bool.and_eq_true] at h
    have hb : b ≠ 32 := by simpa using h.1
    have ih := wl_cut p q h.2
    rw [List.cons_append, wl_cons hb, ih]
    rfl
theorem wl_last : ∀ (p : List UInt8), NoBlank p = true → wl p = [p]
  | [], _ => rfl
  | b :: p, h => by
    unfold NoBlank at h
    rw [List.all_cons, Bool.and_eq_true] at h
    have hb : b ≠ 32 := by simpa using h.1
    rw [wl_cons hb, wl_last p h.2]
    rfl
def qB : ByteArray := ⟨#[113]⟩
def kindW (v : Bool) : ByteArray := if v then ⟨#[115, 101, 99, 111, 110, 100]⟩ else ⟨#[102, 105, 114, 115, 116]⟩
def kindS (v : Bool) : ByteArray := if v then ⟨#[32, 115, 101, 99, 111, 110, 100, 32]⟩ else ⟨#[32, 102, 105, 114, 115, 116, 32]⟩
def aucS (v : Bool) (r c : Nat) : ByteArray := ⟨#[97, 117, 99, 116, 105, 111, 110, 32, 113]⟩ ++ kindS v ++ digS r ++ ⟨#[32]⟩ ++ digS c
def bidS (n : Nat) : ByteArray := ⟨#[98, 105, 100, 32, 113, 32]⟩ ++ digS n
def resS : ByteArray := ⟨#[114, 101, 115, 117, 108, 116, 32, 113]⟩
theorem dig_plain : ∀ n < 100, NoBlank (Lib.decDigits n) = true := by decide +kernel
theorem dig_num : ∀ n < 100, numB (digS n) = true ∧ numI (digS n) = (n : Int) := by decide +kernel
theorem q_name : nameB qB = true := by decide +kernel
theorem digS_list (n : Nat) : (digS n).data.toList = Lib.decDigits n := by unfold digS; simp
theorem auc_words (v : Bool) {r c : Nat} (hr : r < 100) (hc : c < 100) : wordsM (aucS v r c) = [⟨#[97, 117, 99, 116, 105, 111, 110]⟩, qB, kindW v, digS r, digS c] := by
  symm
  apply words_of
  have e : (aucS v r c).data.toList = [97, 117, 99, 116, 105, 111, 110] ++ 32 :: ([113] ++ 32 :: ((kindW v).data.toList ++ 32 :: (Lib.decDigits r ++ 32 :: Lib.decDigits c))) := by
    unfold aucS
    simp only [ByteArray.data_append, Array.toList_append, digS_list]
    cases v <;> simp [kindS, kindW]
  rw [e, wl_cut _ _ (by decide), wl_cut _ _ (by decide), wl_cut _ _ (by cases v <;> decide), wl_cut _ _ (dig_plain r hr), wl_last _ (dig_plain c hc)]
  simp [digS_list, qB]
theorem bid_words {n : Nat} (hn : n < 100) : wordsM (bidS n) = [⟨#[98, 105, 100]⟩, qB, digS n] := by
  symm
  apply words_of
  have e : (bidS n).data.toList = [98, 105, 100] ++ 32 :: ([113] ++ 32 :: Lib.decDigits n) := by
    unfold bidS
    simp only [ByteArray.data_append, Array.toList_append, digS_list]
    simp
  rw [e, wl_cut _ _ (by decide), wl_cut _ _ (by decide), wl_last _ (dig_plain n hn)]
  simp [digS_list, qB]
theorem res_words : wordsM resS = [⟨#[114, 101, 115, 117, 108, 116]⟩, qB] := by decide +kernel
end Go.Proofs.YtgeimnknmljplaaDoor
/- AppSale in plain words: what each payload does; who wins, and what is paid. Conditions: those named in each theorem. -/
namespace Go.Proofs.YtgeimnknmljplaaDoor
open Go Go.RowKit Go.Gv Go.Sort Go.Proofs

/-- The app over one auction. -/
def saleQ (v : Bool) (r c : Int) (bs : List GAuctionBid) (st : Bool) (x : GAuctionResult) : MSale := ⟨qB, v, r, c, bs, st, x⟩
def MQ (s : MSale) (n : Int) : MApp := ⟨[(qB, s)], [], n⟩
theorem mgetQ (s : MSale) : mget [(qB, s)] qB = some s := by rw [mget_cons, if_pos rfl]
theorem msetQ (s t : MSale) : mset [(qB, s)] qB t = [(qB, t)] := by unfold mset; simp
theorem MQ_early {s : MSale} {t n : Int} (h : dueB t s = false) : settleA (MQ s n) t = MQ s (n + 1) := by
  unfold settleA MQ settleH
  simp [h]
theorem MQ_due {s : MSale} {t n : Int} (h : dueB t s = true) : settleA (MQ s n) t = MQ (doneM s) (n + 1) := by
  unfold settleA MQ settleH
  simp [h]
theorem auc_does (v : Bool) {r c : Nat} (hr : r < 20) (hc : 20 ≤ c) (hc2 : c < 40) (who : Int) : execA M0 who 1 (aucS v r c) = ((⟨#[111, 107]⟩ : ByteArray), MQ (saleQ v r c [] false default) 1) := by
  have h1 := dig_num r (by omega)
  have h2 := dig_num c (by omega)
  have hs : settleA M0 1 = ⟨[], [], 1⟩ := rfl
  unfold execA
  rw [auc_words v (by omega) (by omega), hs]
  unfold doA
  rw [if_neg (by simp [wd]), if_pos ⟨by simp [wd], rfl⟩]
  have hk : ((wd [⟨#[97, 117, 99, 116, 105, 111, 110]⟩, qB, kindW v, digS r, digS c] 2).toList == [115, 101, 99, 111, 110, 100]) = v := by
    show ((kindW v).toList == [115, 101, 99, 111, 110, 100]) = v
    cases v <;> decide +kernel
  have hok : openOk [⟨#[97, 117, 99, 116, 105, 111, 110]⟩, qB, kindW v, digS r, digS c] = true := by
    unfold openOk
    rw [show wd [⟨#[97, 117, 99, 116, 105, 111, 110]⟩, qB, kindW v, digS r, digS c] 3 = digS r from rfl, show wd [⟨#[97, 117, 99, 116, 105, 111, 110]⟩, qB, kindW v, digS r, digS c] 4 = digS c from rfl, h1.1, h2.1]
    show (true && (true && (((kindW v).toList == [102, 105, 114, 115, 116]) || ((kindW v).toList == [115, 101, 99, 111, 110, 100])))) = true
    cases v <;> decide +kernel
  unfold openA
  rw [if_pos hok, hk, show wd [⟨#[97, 117, 99, 116, 105, 111, 110]⟩, qB, kindW v, digS r, digS c] 3 = digS r from rfl, show wd [⟨#[97, 117, 99, 116, 105, 111, 110]⟩, qB, kindW v, digS r, digS c] 4 = digS c from rfl, show wd [⟨#[97, 117, 99, 116, 105, 111, 110]⟩, qB, kindW v, digS r, digS c] 1 = qB from rfl, h1.2, h2.2]
  have ho : openR [] qB r c 1 = 0 := by
    unfold openR badOpen
    rw [q_name, if_neg (by simp; omega), if_neg (by simp [mget_nil]), if_neg (by omega), if_neg (by simp)]
  unfold openH
  rw [ho, if_pos rfl, told0]
  rfl
theorem early_does {s : MSale} {t n : Int} (h : dueB t s = false) (hs : s.settled = false) (who : Int) : execA (MQ s n) who t resS = ((⟨#[101, 114, 114, 111, 114, 32, 49, 50]⟩ : ByteArray), MQ s (n + 1)) := by
  unfold execA
  rw [res_words, MQ_early h]
  unfold doA
  rw [if_neg (by decide +kernel), if_neg (by decide +kernel), if_neg (by decide +kernel), if_neg (by decide +kernel), if_pos (by decide +kernel)]
  have hr : resultR [(qB, s)] qB = (default, 12) := by unfold resultR; rw [mgetQ]; simp [hs]
  unfold resultS
  rw [show wd [⟨#[114, 101, 115, 117, 108, 116]⟩, qB] 1 = qB from rfl, show (MQ s (n + 1)).house = [(qB, s)] from rfl, hr, if_neg (by decide), told12]
theorem bid_does {s : MSale} {t n : Int} {m : Nat} {who : Int} (h : dueB t s = false) (hs : s.settled = false) (hc : ¬ s.close < t) (hm : 1 ≤ m) (hm2 : m < 100) (hw : 0 ≤ who ∧ who < 100) (hb : hasBid s.bids who = false) :
    execA (MQ s n) who t (bidS m) = ((⟨#[111, 107]⟩ : ByteArray), MQ (s.bid who m) (n + 1)) := by
  have h1 := dig_num m hm2
  unfold execA
  rw [bid_words hm2, MQ_early h]
  unfold doA
  rw [if_neg (by simp [wd]), if_neg (by simp), if_pos ⟨by simp [wd], rfl⟩]
  unfold bidA
  rw [show wd [⟨#[98, 105, 100]⟩, qB, digS m] 2 = digS m from rfl, show wd [⟨#[98, 105, 100]⟩, qB, digS m] 1 = qB from rfl, h1.1, if_pos rfl, h1.2, show (MQ s (n + 1)).house = [(qB, s)] from rfl]
  have hr : bidR [(qB, s)] qB who m t = 0 := by
    unfold bidR badBid
    rw [mgetQ]
    simp only
    rw [if_neg (by rw [hs]; simp; omega), if_neg (by simp; omega), hb]
    rfl
  unfold bidH
  rw [mgetQ]
  simp only
  rw [hr, if_pos rfl, msetQ, told0]
  rfl
theorem late_does {s : MSale} {t n : Int} (h : dueB t s = true) (who : Int) : execA (MQ s n) who t (bidS 99) = ((⟨#[101, 114, 114, 111, 114, 32, 49, 49]⟩ : ByteArray), MQ (doneM s) (n + 1)) := by
  have h1 := dig_num 99 (by omega)
  unfold execA
  rw [bid_words (by omega), MQ_due h]
  unfold doA
  rw [if_neg (by simp [wd]), if_neg (by simp), if_pos ⟨by simp [wd], rfl⟩]
  unfold bidA
  rw [show wd [⟨#[98, 105, 100]⟩, qB, digS 99] 2 = digS 99 from rfl, show wd [⟨#[98, 105, 100]⟩, qB, digS 99] 1 = qB from rfl, h1.1, if_pos rfl, h1.2, show (MQ (doneM s) (n + 1)).house = [(qB, doneM s)] from rfl]
  have hr : ∀ m : Int, bidR [(qB, doneM s)] qB who m t = 11 := fun m => by
    unfold bidR
    rw [mgetQ]
    simp only
    rw [if_pos (.inl rfl)]
  unfold bidH
  rw [mgetQ]
  simp only
  rw [hr, if_neg (by decide)]
  refine Prod.ext ?_ rfl
  show toldI 11 = (⟨#[101, 114, 114, 111, 114, 32, 49, 49]⟩ : ByteArray)
  decide +kernel
theorem end_does {s : MSale} {t n : Int} (hs : s.settled = true) (who : Int) : execA (MQ s n) who t resS = ((if s.result.winner < 0 then ⟨#[110, 111, 98, 111, 100, 121]⟩ else wonB s.result : ByteArray), MQ s (n + 1)) := by
  have h : dueB t s = false := by unfold dueB; rw [hs]; rfl
  unfold execA
  rw [res_words, MQ_early h]
  unfold doA
  rw [if_neg (by decide +kernel), if_neg (by decide +kernel), if_neg (by decide +kernel), if_neg (by decide +kernel), if_pos (by decide +kernel)]
  have hr : resultR [(qB, s)] qB = (s.result, 0) := by unfold resultR; rw [mgetQ]; simp [hs]
  unfold resultS
  rw [show wd [⟨#[114, 101, 115, 117, 108, 116]⟩, qB] 1 = qB from rfl, show (MQ s (n + 1)).house = [(qB, s)] from rfl, hr, if_pos rfl]
/-- What the law has reckoned of the bids so far. -/
def LS (r : Int) (bs : List GAuctionBid) (best second who : Int) : Prop :=
  let S := sortL GAuctionBid.amount (bs.filter fun b => decide (r ≤ b.amount))
  (S = [] ∧ best = -1 ∧ second = r ∧ who = -1) ∨ ∃ b rest, S = b :: rest ∧ best = b.amount ∧ who = b.client ∧ second = (match rest with | [] => r | c :: _ => c.amount)
theorem LS.start (r : Int) : LS r [] (-1) r (-1) := .inl ⟨rfl, rfl, rfl, rfl⟩
section
variable {r best second who : Int} {bs : List GAuctionBid}
theorem LS.low (h : LS r bs best second who) {i m : Int} (hm : m < r) : LS r (bs ++ [⟨i, m⟩]) best second who := by
  have e : (bs ++ [(⟨i, m⟩ : GAuctionBid)]).filter (fun b => decide (r ≤ b.amount)) = bs.filter fun b => decide (r ≤ b.amount) := by
    rw [List.filter_append]
    have : ¬ r ≤ m := by omega
    simp [this]
  unfold LS at h ⊢
  rw [e]
  exact h
theorem LS.eq (i m : Int) (hm : r ≤ m) : sortL GAuctionBid.amount ((bs ++ [(⟨i, m⟩ : GAuctionBid)]).filter fun b => decide (r ≤ b.amount)) = insL GAuctionBid.amount ⟨i, m⟩ (sortL GAuctionBid.amount (bs.filter fun b => decide (r ≤ b.amount))) := by
  rw [List.filter_append, ← sortL_snoc]
  simp [hm]
theorem LS.more (h : LS r bs best second who) {i m : Int} (hr : 0 ≤ r) (hm : r ≤ m) (hb : best < m) : LS r (bs ++ [⟨i, m⟩]) m (if best < 0 then second else best) i ∧ True := by
  refine ⟨?_, trivial⟩
  unfold LS at h ⊢
  simp only at h ⊢
  rw [LS.eq i m hm]
  rcases h with ⟨hS, h1, h2, h3⟩ | ⟨b, rest, hS, h1, h2, h3⟩
  · rw [hS, h1, if_pos (by omega), h2]
    exact .inr ⟨⟨i, m⟩, [], rfl, rfl, rfl, rfl⟩
  · have hb9 : r ≤ b.amount := by
      have : b ∈ bs.filter fun b => decide (r ≤ b.amount) := (perm_sortL GAuctionBid.amount _).mem_iff.1 (by rw [hS]; simp)
      simpa using (List.mem_filter.1 this).2
    rw [hS, h1, if_neg (by omega)]
    have hlt : b.amount < m := by rw [← h1]; exact hb
    unfold insL
    rw [if_pos hlt]
    exact .inr ⟨⟨i, m⟩, b :: rest, rfl, rfl, rfl, rfl⟩
theorem LS.less (h : LS r bs best second who) {i m : Int} (hr : 0 ≤ r) (hm : r ≤ m) (hb : ¬ best < m) : LS r (bs ++ [⟨i, m⟩]) best (max second m) who := by
  unfold LS at h ⊢
  simp only at h ⊢
  rw [LS.eq i m hm]
  rcases h with ⟨hS, h1, h2, h3⟩ | ⟨b, rest, hS, h1, h2, h3⟩
  · omega
  · have hlt : ¬ b.amount < m := by rw [← h1]; exact hb
    rw [hS]
    unfold insL
    rw [if_neg hlt]
    refine .inr ⟨b, _, rfl, h1, h2, ?_⟩
    rw [h3]
    cases rest with
    | nil => show max r m = m; omega
    | cons c t =>
      unfold insL
      by_cases hc : c.amount < m
      · rw [if_pos hc]
        show max c.amount m = m
        omega
      · rw [if_neg hc]
        show max c.amount m = c.amount
        omega
end
theorem LS.ends {v : Bool} {r c best second who : Int} {bs : List GAuctionBid} {st : Bool} {x : GAuctionResult} (h : LS r bs best second who) :
    (who < 0 → (∀ b ∈ bs, 0 ≤ b.client) → endR (saleQ v r c bs st x) = ⟨qB, -1, 0⟩) ∧ (¬ who < 0 → endR (saleQ v r c bs st x) = ⟨qB, who, if v = true then second else best⟩) := by
  unfold LS at h
  simp only at h
  have hE : endBids (saleQ v r c bs st x) = sortL GAuctionBid.amount (bs.filter fun b => decide (r ≤ b.amount)) := rfl
  rcases h with ⟨hS, h1, h2, h3⟩ | ⟨b, rest, hS, h1, h2, h3⟩
  · refine ⟨fun _ _ => ?_, fun h => by omega⟩
    unfold endR
    rw [hE, hS]
    rfl
  · refine ⟨fun hw ha => ?_, fun _ => ?_⟩
    · have : b ∈ bs.filter fun b => decide (r ≤ b.amount) := (perm_sortL GAuctionBid.amount _).mem_iff.1 (by rw [hS]; simp)
      have := ha b (List.mem_filter.1 this).1
      omega
    · unfold endR
      rw [hE, hS]
      simp only [endPrice]
      rw [h2, h3, h1]
      cases v <;> rfl
end Go.Proofs.YtgeimnknmljplaaDoor
/- AppSale: the walk. Conditions: those named in each theorem. -/
namespace Go.Proofs.YtgeimnknmljplaaDoor
open Go Go.RowKit Go.Gv Go.Sort Go.Proofs

set_option maxRecDepth 100000 in
set_option maxHeartbeats 1000000 in
theorem entryC_any (c t : Int) (w : World) : Calls Tryd.prog 7 #[.int .i64 c, .int .u64 t] w fun e w' => e = .returned (⟨⟨c, 1⟩, default, t⟩ : GEntry).val ∧ Bel w w' := by
  have hg := get?_new (w := w) 32 (⟨⟨c, 1⟩, default, t⟩ : GEntry)
  have HG := Lib.hid hg
  have HB := Lib.hid ((Bel.refl w).alloc (.cells (GEntry.enc ⟨⟨c, 1⟩, default, t⟩).toArray 32))
  clear hg
  go_enter Tryd.func7, Tryd.ntmps7
  go_wp2_with fail
  refine bodyPost_ret (results_cell (x := (⟨⟨c, 1⟩, default, t⟩ : GEntry)) rfl rfl ag32 sz32 HG.out) rfl ⟨?_, HB.out⟩
  rw [GEntry.val_eq]
/-- Bytes of a text, in memory. -/
def bytesQ (s : ByteArray) : List U8 := s.data.toList.map U8.mk
theorem bytesB_q (s : ByteArray) : bytesB (bytesQ s) = s := by
  unfold bytesB bytesQ
  rw [List.map_map]
  have : (U8.v ∘ U8.mk) = id := rfl
  rw [this, List.map_id]
theorem flat_byteQ : ∀ (l : List UInt8), (l.map U8.mk).flatMap Enc.enc = l.map fun b => Value.int .u8 b.toNat
  | [] => rfl
  | b :: l => by rw [List.map_cons, List.flatMap_cons, flat_byteQ l]; rfl
theorem conv_q (w : World) (pl : ByteArray) :
    ∃ (c : Nat) (w' : World), (convert 9 35 (.string pl)).run Tryd.prog w = .ok (.slice (some ⟨w.heap.size, 0, none⟩) pl.size c) w' ∧ Sl U8 w' w'.heap.size (some ⟨w.heap.size, 0, none⟩) pl.size (bytesQ pl) ∧ Bel w w' := by
  refine ⟨_, _, run_bytes_of_string (P := Tryd.prog) w 9 35 5 pl (by kernel_rfl) (by kernel_rfl) (by kernel_rfl), Sl.of_row (heap_alloc_new w.drew _) ?_ ?_ (by simp), (Bel.refl w).drew.alloc _⟩
  · unfold bytesRow bytesQ
    rw [flat_byteQ, Array.toList_append, Array.toList_map]
    rw [show pl.size * Enc.n U8 = (pl.data.toList.map fun b => Value.int .u8 b.toNat).length by simp [show Enc.n U8 = 1 from rfl]]
    rw [List.take_left']
    rfl
  · unfold bytesQ
    simp
def resPl : List U8 := [⟨114⟩, ⟨101⟩, ⟨115⟩, ⟨117⟩, ⟨108⟩, ⟨116⟩, ⟨32⟩, ⟨113⟩]
def latePl : List U8 := [⟨98⟩, ⟨105⟩, ⟨100⟩, ⟨32⟩, ⟨113⟩, ⟨32⟩, ⟨57⟩, ⟨57⟩]
theorem resPl_is : bytesB resPl = resS := by decide +kernel
theorem latePl_is : bytesB latePl = bidS 99 := by decide +kernel
theorem bidQ_is (n : Nat) {P : ByteArray} (h : bidS n = P) : bytesB (bytesQ P) = bidS n := by rw [bytesB_q, h]
theorem hasBid_below {bs : List GAuctionBid} {k : Int} (h : ∀ b ∈ bs, 0 ≤ b.client ∧ b.client < k) : hasBid bs k = false := by
  unfold hasBid
  rw [List.any_eq_false]
  intro b hb
  have := h b hb
  simp
  omega
theorem dueQ_early {v : Bool} {r c t : Int} {bs : List GAuctionBid} {st : Bool} {x : GAuctionResult} (h : t ≤ c) : dueB t (saleQ v r c bs st x) = false := by
  unfold dueB saleQ
  simp only [Bool.and_eq_false_iff, decide_eq_false_iff_not]
  right
  omega
theorem dueQ_late {v : Bool} {r c t : Int} {bs : List GAuctionBid} {x : GAuctionResult} (h : c < t) : dueB t (saleQ v r c bs false x) = true := by
  unfold dueB saleQ
  simp [h]
theorem won_dig {q : ByteArray} {a b : Nat} : wonB ⟨q, a, b⟩ = ⟨#[119, 111, 110, 32]⟩ ++ digS a ++ ⟨#[32]⟩ ++ digS b := by
  unfold wonB
  simp only
  rw [itoa_dig, itoa_dig]
theorem meas8 {k : Nat} (h : k < 8) : 8 - k < 9 - k := by omega
theorem LS.facts {r best second who : Int} {bs : List GAuctionBid} (h : LS r bs best second who) (hr : 0 ≤ r) (hr2 : r < 20) (hc : ∀ b ∈ bs, 0 ≤ b.client ∧ b.client < 8) (ha : ∀ b ∈ bs, b.amount < 100) :
    -1 ≤ best ∧ best < 100 ∧ 0 ≤ second ∧ second < 100 ∧ -1 ≤ who ∧ who < 8 ∧ (0 ≤ who → 0 ≤ best) ∧ (who < 0 → best < 0) := by
  unfold LS at h
  simp only at h
  have hmem : ∀ b, b ∈ sortL GAuctionBid.amount (bs.filter fun b => decide (r ≤ b.amount)) → b ∈ bs ∧ r ≤ b.amount := fun b hb => by
    have := (perm_sortL GAuctionBid.amount _).mem_iff.1 hb
    have := List.mem_filter.1 this
    exact ⟨this.1, by simpa using this.2⟩
  rcases h with ⟨hS, h1, h2, h3⟩ | ⟨b, rest, hS, h1, h2, h3⟩
  · omega
  · obtain ⟨m1, m2⟩ := hmem b (by rw [hS]; simp)
    have c1 := hc b m1
    have a1 := ha b m1
    have : 0 ≤ second ∧ second < 100 := by
      rw [h3]
      cases rest with
      | nil => exact ⟨hr, by simp only; omega⟩
      | cons d t =>
        obtain ⟨m3, m4⟩ := hmem d (by rw [hS]; simp)
        have a2 := ha d m3
        exact ⟨by simp only; omega, a2⟩
    omega
theorem within_nat (x : Int) (k : Nat) (hk : 0 < k) : ∃ q : Nat, within x k = (q : Int) ∧ q < k := by
  have h1 : 0 ≤ within x k := by unfold within; rw [if_neg (by omega)]; exact Int.emod_nonneg _ (by omega)
  have h2 : within x k < k := by unfold within; rw [if_neg (by omega)]; exact Int.emod_lt_of_pos _ (by omega)
  obtain ⟨q, hq⟩ := Int.eq_ofNat_of_zero_le h1
  exact ⟨q, hq, by omega⟩
set_option maxRecDepth 100000 in
set_option maxHeartbeats 16000000 in
theorem sale_any (A : Option Addr) (n c0 : Nat) (xs : List I64) (rs cl : Int) (v : Bool) (w : World) (hL : LibIs w) (hx : Sl I64 w w.heap.size A n xs) (hox : ∀ x ∈ xs, -9223372036854775808 ≤ x.v ∧ x.v ≤ 9223372036854775807) (hn : n ≤ maxLen)
    (hr1 : -9223372036854775808 ≤ rs) (hr2 : rs ≤ 9223372036854775807) (hc1 : -9223372036854775808 ≤ cl) (hc2 : cl ≤ 9223372036854775807) :
    Calls Tryd.prog 3 #[.slice A n c0, .int .i64 rs, .int .i64 cl, .bool v] w fun e w' => e = .returned (.bool true) ∧ Bel w w' := by
  unfold maxLen at hn
  have HX := Lib.hid hx; have HOX := Lib.hid hox; have HL := Lib.hid hL
  clear hx hox hL
  obtain ⟨r, hr, hr9⟩ := within_nat rs 20 (by omega)
  obtain ⟨c9, hc, hc9⟩ := within_nat cl 20 (by omega)
  have HR := Lib.hid hr; have HC := Lib.hid hc
  clear hr hc
  obtain ⟨c, hcc⟩ : ∃ c : Nat, 20 + c9 = c := ⟨_, rfl⟩
  have e20 : IntKind.i64.wrap (20 + (c9 : Int)) = (c : Int) := by rw [IntWalk.i64_in _ (by omega)]; omega
  go_enter Tryd.func3, Tryd.ntmps3
  go_wp2_with fail
  refine (newApp_any w).mono ?_
  rintro _ w1 ⟨a, g, r0, p, q, rfl, hA, hF, hb⟩
  have HST := Lib.hid (show AF w w1 a g r0 p q M0 0 from ⟨hA, hb, fun k hk => (hF k).resolve_right (fun e => e (.inl hk))⟩)
  clear hA hF hb
  go_wp2_with fail
  refine (within_is rs 20 r _ HR.out (by omega) hr1 hr2).mono ?_
  rintro _ w2 ⟨rfl, h2⟩
  obtain rfl : w1 = w2 := by first | exact h2 | exact h2.symm
  go_wp2_with fail
  refine (within_is cl 20 c9 _ HC.out (by omega) hc1 hc2).mono ?_
  rintro _ w2 ⟨rfl, h2⟩
  obtain rfl : w1 = w2 := by first | exact h2 | exact h2.symm
  go_upto_if 27 with fail
  go_cut [10] (fun kv wx => kv = .string (kindS v) ∧ wx = w1)
  case first =>
    cases v
    · go_wp2_with fail
      go_meet
      exact ⟨rfl, rfl⟩
    · go_wp2_with fail
      go_meet
      exact ⟨rfl, rfl⟩
  case rest =>
  obtain ⟨rfl, rfl⟩ := hcut
  obtain ⟨K, hK⟩ : ∃ K, kindS v = K := ⟨_, rfl⟩
  have hKz : K.size ≤ 8 := by rw [← hK]; cases v <;> decide
  have HK := Lib.hid hK
  rw [hK]
  clear hK
  go_wp2_with fail
  refine (entryC_any 9 1 _).mono ?_
  rintro _ w3 ⟨rfl, hb3⟩
  have HST3 := Lib.hid (HST.out.step hb3)
  clear HST hb3
  go_wp2_with fail
  refine (digits_any r _ (by omega)).mono ?_
  rintro _ w4 ⟨rfl, hb4⟩
  have HST4 := Lib.hid (HST3.out.step hb4)
  obtain ⟨D1, hD1⟩ : ∃ D, digS r = D := ⟨_, rfl⟩
  have z1 := digS_size r
  have HD1 := Lib.hid hD1
  rw [hD1] at z1 ⊢
  clear HST3 hb4 hD1
  have q1 : ¬ 9223372036854775807 < 9 + K.size := by omega
  have q2 : ¬ 9223372036854775807 < 9 + K.size + D1.size := by omega
  have q3 : ¬ 9223372036854775807 < 9 + K.size + D1.size + 1 := by omega
  go_wp2_with fail
  refine (digits_any c _ (by omega)).mono ?_
  rintro _ w5 ⟨rfl, hb5⟩
  have HST5 := Lib.hid (HST4.out.step hb5)
  obtain ⟨D2, hD2⟩ : ∃ D, digS c = D := ⟨_, rfl⟩
  have z2 := digS_size c
  have HD2 := Lib.hid hD2
  rw [hD2] at z2 ⊢
  clear HST4 hb5 hD2
  have q4 : ¬ 9223372036854775807 < 9 + K.size + D1.size + 1 + D2.size := by omega
  have HP := Lib.hid (show aucS v r c = ((({ data := #[97, 117, 99, 116, 105, 111, 110, 32, 113] } : ByteArray) ++ K) ++ D1) ++ { data := #[32] } ++ D2 by unfold aucS; rw [HK.out, HD1.out, HD2.out])
  obtain ⟨P, hP⟩ : ∃ P, ((({ data := #[97, 117, 99, 116, 105, 111, 110, 32, 113] } : ByteArray) ++ K) ++ D1) ++ { data := #[32] } ++ D2 = P := ⟨_, rfl⟩
  have hPs : P.size = 9 + K.size + D1.size + 1 + D2.size := by rw [← hP]; simp only [ByteArray.size_append]; rfl
  rw [hP] at HP
  obtain ⟨cy, w6, hcv, hs6, hb6⟩ := conv_q w5 P
  rw [← hP] at hcv
  have HP2 := Lib.hid hP
  have HFT := Lib.hid HST5.out.foot
  have HST6 := Lib.hid (HST5.out.step hb6)
  rw [hPs] at hs6
  have HS6 := Lib.hid hs6
  have HE1 := Lib.hid (show execA M0 (⟨⟨9, 1⟩, default, 1⟩ : GEntry).name.client (⟨⟨9, 1⟩, default, 1⟩ : GEntry).time (bytesB (bytesQ P)) = ((⟨#[111, 107]⟩ : ByteArray), MQ (saleQ v r c [] false default) 1) by rw [bytesB_q, ← HP.out]; exact auc_does v (by omega) (by omega) (by omega) 9)
  clear hs6 hb6 hP HST5 hPs
  go_wp2_with fail
  refine (HST6.out.exec ⟨⟨9, 1⟩, default, 1⟩ (some ⟨w5.heap.size, 0, none⟩) (9 + K.size + D1.size + 1 + D2.size) cy (bytesQ P) HL.out HS6.out (fun ad e hf => by injection e with e; subst e; have := HFT.out _ hf; simp at this) (by omega) (by omega) HE1.out).mono ?_
  rintro _ w7 ⟨rfl, hst7, -⟩
  have HST7 := Lib.hid hst7
  clear hst7 hcv HST6 HS6 HFT HE1 HP HP2 q1 q2 q3 q4
  go_wp2_with fail
  refine (entryC_any 9 2 _).mono ?_
  rintro _ w8 ⟨rfl, hb8⟩
  have HST8 := Lib.hid (HST7.out.step hb8)
  clear HST7 hb8
  have hcv := Lib.run_convert_bytes_const (P := Tryd.prog) w8 35 5 #[.int .u8 114, .int .u8 101, .int .u8 115, .int .u8 117, .int .u8 108, .int .u8 116, .int .u8 32, .int .u8 113] 8 8 (by kernel_rfl) (by kernel_rfl)
  have hb2 := (Bel.refl w8).alloc (.cells #[.int .u8 114, .int .u8 101, .int .u8 115, .int .u8 117, .int .u8 108, .int .u8 116, .int .u8 32, .int .u8 113] 5 (8, 9))
  have HSL := Lib.hid (show Sl U8 (w8.alloc (.cells #[.int .u8 114, .int .u8 101, .int .u8 115, .int .u8 117, .int .u8 108, .int .u8 116, .int .u8 32, .int .u8 113] 5 (8, 9))) (w8.alloc (.cells #[.int .u8 114, .int .u8 101, .int .u8 115, .int .u8 117, .int .u8 108, .int .u8 116, .int .u8 32, .int .u8 113] 5 (8, 9))).heap.size (some ⟨w8.heap.size, 0, none⟩) 8 resPl from Sl.of_row (heap_alloc_new w8 _) (by rfl) rfl (by simp))
  have HS2 := Lib.hid (HST8.out.step hb2); have HFT := Lib.hid HST8.out.foot
  have HE := Lib.hid (show execA (MQ (saleQ v r c [] false default) 1) (⟨⟨9, 1⟩, default, 2⟩ : GEntry).name.client (⟨⟨9, 1⟩, default, 2⟩ : GEntry).time (bytesB resPl) = ((⟨#[101, 114, 114, 111, 114, 32, 49, 50]⟩ : ByteArray), MQ (saleQ v r c [] false default) 2) by rw [resPl_is]; exact early_does (dueQ_early (by simp only; omega)) rfl 9)
  clear hb2
  go_wp2_with fail
  refine (HS2.out.exec ⟨⟨9, 1⟩, default, 2⟩ (some ⟨w8.heap.size, 0, none⟩) 8 8 resPl HL.out HSL.out (fun ad e hf => by injection e with e; subst e; have := HFT.out _ hf; simp at this) (by omega) (by omega) HE.out).mono ?_
  rintro _ w9 ⟨rfl, hst, -⟩
  have HST9 := Lib.hid hst
  clear hst hcv HS2 HSL HFT HE HST8
  go_upto_block 0 with fail
  go_cut [12, 13, 14, 15] (fun bv sv wv _ wx => ∃ (k : Nat) (best second who : Int) (bs : List GAuctionBid), k ≤ 8 ∧ bv = .int .i64 best ∧ sv = .int .i64 second ∧ wv = .int .i64 who ∧ Hid (LS r bs best second who) ∧ Hid (∀ b ∈ bs, 0 ≤ b.client ∧ b.client < k) ∧ Hid (∀ b ∈ bs, b.amount < 100) ∧ Hid (AF w wx a g r0 p q (MQ (saleQ v r c bs false default) (2 + k)) (4 + 2 * k)))
  case first =>
    go_wp2_with fail
    go_loopw [12, 13, 14, 15] (fun bv sv wv iv wr => ∃ (k : Nat) (best second who : Int) (bs : List GAuctionBid), k ≤ n ∧ k ≤ 8 ∧ bv = .int .i64 best ∧ sv = .int .i64 second ∧ wv = .int .i64 who ∧ iv = .int .i64 k ∧ Hid (LS r bs best second who) ∧ Hid (∀ b ∈ bs, 0 ≤ b.client ∧ b.client < k) ∧ Hid (∀ b ∈ bs, b.amount < 100) ∧ Hid (AF w wr a g r0 p q (MQ (saleQ v r c bs false default) (2 + k)) (4 + 2 * k))) (fun _ _ _ iv _ => 9 - (intOf iv).toNat)
    case atStart => exact ⟨0, -1, r, -1, [], by omega, by omega, rfl, rfl, rfl, rfl, Lib.hid (LS.start r), Lib.hid (fun b hb => nomatch hb), Lib.hid (fun b hb => nomatch hb), HST9⟩
    case round =>
      obtain ⟨k, best, second, who, bs, hk, hk8, rfl, rfl, rfl, rfl, hls, hcl, ham, hst⟩ := hrel
      clear HST9
      have hfb := LS.facts hls.out (by omega) (by omega) (fun b hb => ⟨(hcl.out b hb).1, by have := (hcl.out b hb).2; omega⟩) ham.out
      by_cases hcont : k < n ∧ k < 8
      · obtain ⟨hlt, hlt8⟩ := hcont
        obtain ⟨ad, x, rfl, _, hxk, hgx⟩ := (HX.out.stepB hst.out.bel).at_ (k := k) hlt
        have hfx := HOX.out x (List.mem_of_getElem? hxk)
        obtain ⟨xv⟩ := x
        have f1 : wr.cell? (ad.add k) = some (.int .i64 xv) := by have := get1 rfl hgx; rwa [show k * Enc.n I64 = k from Nat.mul_one k] at this
        have hx1 : -9223372036854775808 ≤ xv := hfx.1
        have hx2 : xv ≤ 9223372036854775807 := hfx.2
        have hlt2 : (k : Int) < (n : Int) := by omega
        have hlt3 : (k : Int) < 8 := by omega
        have hk0 : (0 : Int) ≤ (k : Int) := by omega
        obtain ⟨m9, hm9, hm99⟩ := within_nat xv 50 (by omega)
        have HM := Lib.hid hm9
        clear hxk hgx hfx hm9
        go_wp2_with fail
        refine (within_is xv 50 m9 _ HM.out (by omega) hx1 hx2).mono ?_
        rintro _ w2 ⟨rfl, h2⟩
        obtain rfl : wr = w2 := by first | exact h2 | exact h2.symm
        obtain ⟨m, hm⟩ : ∃ m : Nat, 1 + m9 = m := ⟨_, rfl⟩
        have e1 : IntKind.i64.wrap (1 + (m9 : Int)) = (m : Int) := by rw [IntWalk.i64_in _ (by omega)]; omega
        have e2 : IntKind.i64.wrap (3 + (k : Int)) = 3 + (k : Int) := IntWalk.i64_in _ (by omega)
        have e3 : IntKind.u64.wrap (3 + (k : Int)) = 3 + (k : Int) := IntWalk.u64_in _ (by omega)
        have e4 : IntKind.i64.wrap ((k : Int) + 1) = (k : Int) + 1 := IntWalk.i64_in _ (by omega)
        clear f1
        go_wp2_with fail
        refine (entryC_any k (3 + k) _).mono ?_
        rintro _ w3 ⟨rfl, hb3⟩
        replace hst := Lib.hid (hst.out.step hb3)
        clear hb3
        go_wp2_with fail
        refine (digits_any m _ (by omega)).mono ?_
        rintro _ w4 ⟨rfl, hb4⟩
        replace hst := Lib.hid (hst.out.step hb4)
        obtain ⟨D, hD⟩ : ∃ D, digS m = D := ⟨_, rfl⟩
        have z3 := digS_size m
        rw [hD] at z3
        have HP := Lib.hid (show bidS m = ({ data := #[98, 105, 100, 32, 113, 32] } : ByteArray) ++ D by unfold bidS; rw [hD])
        rw [hD]
        clear hD hb4
        have q1 : ¬ 9223372036854775807 < 6 + D.size := by omega
        obtain ⟨P, hP⟩ : ∃ P, ({ data := #[98, 105, 100, 32, 113, 32] } : ByteArray) ++ D = P := ⟨_, rfl⟩
        have hPs : P.size = 6 + D.size := by rw [← hP]; simp only [ByteArray.size_append]; rfl
        obtain ⟨cy, w6, hcv, hs6, hb6⟩ := conv_q w4 P
        rw [← hP] at hcv
        rw [hP] at HP
        have HFT := Lib.hid hst.out.foot
        replace hst := Lib.hid (hst.out.step hb6)
        rw [hPs] at hs6
        have HS6 := Lib.hid hs6
        have HE1 := Lib.hid (show execA (MQ (saleQ v r c bs false default) (2 + k)) (⟨⟨k, 1⟩, default, 3 + k⟩ : GEntry).name.client (⟨⟨k, 1⟩, default, 3 + k⟩ : GEntry).time (bytesB (bytesQ P)) = ((⟨#[111, 107]⟩ : ByteArray), MQ (saleQ v r c (bs ++ [⟨k, m⟩]) false default) (2 + k + 1)) by
          rw [bidQ_is m HP.out]
          exact bid_does (dueQ_early (by simp only; omega)) rfl (by show ¬ (c : Int) < 3 + k; omega) (by omega) (by omega) ⟨by simp only; omega, by simp only; omega⟩ (hasBid_below hcl.out))
        clear hs6 hb6 hP hPs
        go_wp2_with fail
        refine (hst.out.exec ⟨⟨k, 1⟩, default, 3 + k⟩ (some ⟨w4.heap.size, 0, none⟩) (6 + D.size) cy (bytesQ P) HL.out HS6.out (fun ad e hf => by injection e with e; subst e; have := HFT.out _ hf; simp at this) (by omega) (by omega) HE1.out).mono ?_
        rintro _ w7 ⟨rfl, hst, -⟩
        have HST7 := Lib.hid (show AF w w7 a g r0 p q (MQ (saleQ v r c (bs ++ [⟨k, m⟩]) false default) (2 + (k + 1 : Nat))) (4 + 2 * (k + 1)) from by
          have h9 := hst
          rw [show (2 : Int) + (k + 1 : Nat) = 2 + k + 1 by omega, show 4 + 2 * (k + 1) = 4 + 2 * k + 2 by omega]
          exact h9)
        have HCL := Lib.hid (show ∀ b ∈ bs ++ [(⟨k, m⟩ : GAuctionBid)], 0 ≤ b.client ∧ b.client < (k + 1 : Nat) from by
          intro b hb
          rcases List.mem_append.1 hb with hb | hb
          · have := hcl.out b hb; omega
          · rw [List.mem_singleton.1 hb]; exact ⟨by simp only; omega, by simp only; omega⟩)
        have HAM := Lib.hid (show ∀ b ∈ bs ++ [(⟨k, m⟩ : GAuctionBid)], b.amount < 100 from by
          intro b hb
          rcases List.mem_append.1 hb with hb | hb
          · exact ham.out b hb
          · rw [List.mem_singleton.1 hb]; simp only; omega)
        clear hst hcv HE1 HS6 HFT HP q1 z3 hcl ham
        have hk1 : k + 1 ≤ n := hlt
        have HM9 := Lib.hid (meas8 hlt8)
        by_cases hlow : (m : Int) < (r : Int)
        · have HLS := Lib.hid (hls.out.low (i := (k : Int)) hlow)
          clear hls
          go_wp2_with fail
          go_roundw
          case rel => exact ⟨k + 1, best, second, who, bs ++ [⟨k, m⟩], hk1, by omega, rfl, rfl, rfl, by go_num, HLS, HCL, HAM, HST7⟩
          case measure => simp [intOf]; exact HM9.out
        · by_cases hbest : best < (m : Int)
          · by_cases hneg : best < 0
            · have HLS := Lib.hid (show LS r (bs ++ [⟨k, m⟩]) m second k from by
                have := (hls.out.more (i := (k : Int)) (by omega) (by omega : (r : Int) ≤ m) hbest).1
                rwa [if_pos hneg] at this)
              have hneg2 : ¬ 0 ≤ best := by omega
              clear hls
              go_wp2_with fail
              go_roundw
              case rel => exact ⟨k + 1, m, second, k, bs ++ [⟨k, m⟩], hk1, by omega, rfl, rfl, rfl, by go_num, HLS, HCL, HAM, HST7⟩
              case measure => simp [intOf]; exact HM9.out
            · have HLS := Lib.hid (show LS r (bs ++ [⟨k, m⟩]) m best k from by
                have := (hls.out.more (i := (k : Int)) (by omega) (by omega : (r : Int) ≤ m) hbest).1
                rwa [if_neg hneg] at this)
              have hneg2 : 0 ≤ best := by omega
              clear hls
              go_wp2_with fail
              go_roundw
              case rel => exact ⟨k + 1, m, best, k, bs ++ [⟨k, m⟩], hk1, by omega, rfl, rfl, rfl, by go_num, HLS, HCL, HAM, HST7⟩
              case measure => simp [intOf]; exact HM9.out
          · have HLS := Lib.hid (hls.out.less (i := (k : Int)) (by omega) (by omega : (r : Int) ≤ m) hbest)
            obtain ⟨mx, hmx⟩ : ∃ z, max second (m : Int) = z := ⟨_, rfl⟩
            rw [hmx] at HLS
            clear hls
            go_wp2_with fail
            go_roundw
            case rel => exact ⟨k + 1, best, mx, who, bs ++ [⟨k, m⟩], hk1, by omega, rfl, by rw [← hmx], rfl, by go_num, HLS, HCL, HAM, HST7⟩
            case measure => simp [intOf]; exact HM9.out
      · have hstop : (n : Int) ≤ (k : Int) ∨ ((k : Int) < (n : Int) ∧ 8 ≤ (k : Int)) := by omega
        rcases hstop with hs | ⟨hs, hs2⟩
        all_goals
        go_wp2_with fail
        go_meet
        exact ⟨k, best, second, who, bs, hk8, rfl, rfl, rfl, hls, hcl, ham, hst⟩
  case rest =>
  obtain ⟨k, best, second, who, bs, hk8, rfl, rfl, rfl, hls, hcl, ham, hst⟩ := hcut
  clear HST9
  have e1 : IntKind.u64.wrap (c : Int) = (c : Int) := IntWalk.u64_in _ (by omega)
  have e2 : IntKind.u64.wrap ((c : Int) + 1) = (c : Int) + 1 := IntWalk.u64_in _ (by omega)
  have e3 : IntKind.u64.wrap ((c : Int) + 2) = (c : Int) + 2 := IntWalk.u64_in _ (by omega)
  have hfb := LS.facts hls.out (by omega) (by omega) (fun b hb => ⟨(hcl.out b hb).1, by have := (hcl.out b hb).2; omega⟩) ham.out
  obtain ⟨b1, b2, b3, b4, b5, b6, b7, b8⟩ := hfb
  go_wp2_with fail
  refine (entryC_any 3 (c + 1) _).mono ?_
  rintro _ w8 ⟨rfl, hb8⟩
  have HST8 := Lib.hid (hst.out.step hb8)
  clear hst hb8
  have hcv := Lib.run_convert_bytes_const (P := Tryd.prog) w8 35 5 #[.int .u8 98, .int .u8 105, .int .u8 100, .int .u8 32, .int .u8 113, .int .u8 32, .int .u8 57, .int .u8 57] 8 8 (by kernel_rfl) (by kernel_rfl)
  have hb2 := (Bel.refl w8).alloc (.cells #[.int .u8 98, .int .u8 105, .int .u8 100, .int .u8 32, .int .u8 113, .int .u8 32, .int .u8 57, .int .u8 57] 5 (8, 9))
  have HSL := Lib.hid (show Sl U8 (w8.alloc (.cells #[.int .u8 98, .int .u8 105, .int .u8 100, .int .u8 32, .int .u8 113, .int .u8 32, .int .u8 57, .int .u8 57] 5 (8, 9))) (w8.alloc (.cells #[.int .u8 98, .int .u8 105, .int .u8 100, .int .u8 32, .int .u8 113, .int .u8 32, .int .u8 57, .int .u8 57] 5 (8, 9))).heap.size (some ⟨w8.heap.size, 0, none⟩) 8 latePl from Sl.of_row (heap_alloc_new w8 _) (by rfl) rfl (by simp))
  have HS2 := Lib.hid (HST8.out.step hb2); have HFT := Lib.hid HST8.out.foot
  have HE := Lib.hid (show execA (MQ (saleQ v r c bs false default) (2 + k)) (⟨⟨3, 1⟩, default, c + 1⟩ : GEntry).name.client (⟨⟨3, 1⟩, default, c + 1⟩ : GEntry).time (bytesB latePl) = ((⟨#[101, 114, 114, 111, 114, 32, 49, 49]⟩ : ByteArray), MQ (doneM (saleQ v r c bs false default)) (2 + k + 1)) by rw [latePl_is]; exact late_does (dueQ_late (by simp only; omega)) 3)
  clear hb2
  go_wp2_with fail
  refine (HS2.out.exec ⟨⟨3, 1⟩, default, c + 1⟩ (some ⟨w8.heap.size, 0, none⟩) 8 8 latePl HL.out HSL.out (fun ad e hf => by injection e with e; subst e; have := HFT.out _ hf; simp at this) (by omega) (by omega) HE.out).mono ?_
  rintro _ w9 ⟨rfl, hst, -⟩
  have HST9 := Lib.hid hst
  clear hst hcv HS2 HSL HFT HE HST8
  go_wp2_with fail
  refine (entryC_any 9 (c + 2) _).mono ?_
  rintro _ w8 ⟨rfl, hb8⟩
  have HST8 := Lib.hid (HST9.out.step hb8)
  clear HST9 hb8
  have hcv := Lib.run_convert_bytes_const (P := Tryd.prog) w8 35 5 #[.int .u8 114, .int .u8 101, .int .u8 115, .int .u8 117, .int .u8 108, .int .u8 116, .int .u8 32, .int .u8 113] 8 8 (by kernel_rfl) (by kernel_rfl)
  have hb2 := (Bel.refl w8).alloc (.cells #[.int .u8 114, .int .u8 101, .int .u8 115, .int .u8 117, .int .u8 108, .int .u8 116, .int .u8 32, .int .u8 113] 5 (8, 9))
  have HSL := Lib.hid (show Sl U8 (w8.alloc (.cells #[.int .u8 114, .int .u8 101, .int .u8 115, .int .u8 117, .int .u8 108, .int .u8 116, .int .u8 32, .int .u8 113] 5 (8, 9))) (w8.alloc (.cells #[.int .u8 114, .int .u8 101, .int .u8 115, .int .u8 117, .int .u8 108, .int .u8 116, .int .u8 32, .int .u8 113] 5 (8, 9))).heap.size (some ⟨w8.heap.size, 0, none⟩) 8 resPl from Sl.of_row (heap_alloc_new w8 _) (by rfl) rfl (by simp))
  have HS2 := Lib.hid (HST8.out.step hb2); have HFT := Lib.hid HST8.out.foot
  clear hb2
  have HED := Lib.hid (end_does (s := doneM (saleQ v r c bs false default)) (t := (c : Int) + 2) (n := 2 + k + 1) rfl 9)
  have HEN := Lib.hid (hls.out.ends (v := v) (c := (c : Int)) (st := false) (x := default))
  by_cases hneg : who < 0
  · have HE := Lib.hid (show execA (MQ (doneM (saleQ v r c bs false default)) (2 + k + 1)) (⟨⟨9, 1⟩, default, c + 2⟩ : GEntry).name.client (⟨⟨9, 1⟩, default, c + 2⟩ : GEntry).time (bytesB resPl) = ((⟨#[110, 111, 98, 111, 100, 121]⟩ : ByteArray), MQ (doneM (saleQ v r c bs false default)) (2 + k + 1 + 1)) by
      rw [resPl_is]
      refine HED.out.trans ?_
      rw [show (doneM (saleQ v r c bs false default)).result = _ from HEN.out.1 hneg (fun b hb => (hcl.out b hb).1), if_pos (by simp only; omega)])
    clear HED HEN
    go_wp2_with fail
    refine (HS2.out.exec ⟨⟨9, 1⟩, default, c + 2⟩ (some ⟨w8.heap.size, 0, none⟩) 8 8 resPl HL.out HSL.out (fun ad e hf => by injection e with e; subst e; have := HFT.out _ hf; simp at this) (by omega) (by omega) HE.out).mono ?_
    rintro _ w9 ⟨rfl, hst, -⟩
    have HST9 := Lib.hid hst
    clear hst hcv HS2 HSL HFT HE HST8
    go_wp2_with fail
    refine (wakesG_any w _ HL.out HST9.out.bel).mono ?_
    rintro _ w17 ⟨rfl, hb17⟩
    have HB17 := Lib.hid (HST9.out.bel.trans hb17)
    clear hb17
    go_wp2_with fail
    go_ret
    exact ⟨rfl, HB17.out⟩
  · obtain ⟨wn, rfl⟩ := Int.eq_ofNat_of_zero_le (show 0 ≤ who by omega)
    obtain ⟨pn, hpn⟩ := Int.eq_ofNat_of_zero_le (show 0 ≤ (if v = true then second else best) by split <;> omega)
    have HPN := Lib.hid hpn
    have hpn9 : pn < 100 := by cases v <;> simp at hpn <;> omega
    have HE := Lib.hid (show execA (MQ (doneM (saleQ v r c bs false default)) (2 + k + 1)) (⟨⟨9, 1⟩, default, c + 2⟩ : GEntry).name.client (⟨⟨9, 1⟩, default, c + 2⟩ : GEntry).time (bytesB resPl) = (((⟨#[119, 111, 110, 32]⟩ : ByteArray) ++ digS wn ++ ⟨#[32]⟩ ++ digS pn), MQ (doneM (saleQ v r c bs false default)) (2 + k + 1 + 1)) by
      rw [resPl_is]
      refine HED.out.trans ?_
      rw [show (doneM (saleQ v r c bs false default)).result = _ from HEN.out.2 hneg, if_neg (by simp only; omega), HPN.out, won_dig])
    clear HED HEN hpn
    obtain ⟨E1, hE1⟩ : ∃ D, digS wn = D := ⟨_, rfl⟩
    obtain ⟨E2, hE2⟩ : ∃ D, digS pn = D := ⟨_, rfl⟩
    have z1 := digS_size wn
    have z2 := digS_size pn
    rw [hE1] at z1 HE
    rw [hE2] at z2 HE
    have HE1 := Lib.hid hE1; have HE2 := Lib.hid hE2
    clear hE1 hE2
    have q1 : ¬ 9223372036854775807 < 4 + E1.size := by omega
    have q2 : ¬ 9223372036854775807 < 4 + E1.size + 1 := by omega
    have q3 : ¬ 9223372036854775807 < 4 + E1.size + 1 + E2.size := by omega
    go_wp2_with fail
    refine (HS2.out.exec ⟨⟨9, 1⟩, default, c + 2⟩ (some ⟨w8.heap.size, 0, none⟩) 8 8 resPl HL.out HSL.out (fun ad e hf => by injection e with e; subst e; have := HFT.out _ hf; simp at this) (by omega) (by omega) HE.out).mono ?_
    rintro _ w9 ⟨rfl, hst, -⟩
    have HST9 := Lib.hid hst
    clear hst hcv HS2 HSL HFT HE HST8
    go_upto_if 123 with fail
    go_cut [18] (fun pv wx => pv = .int .i64 pn ∧ wx = w9)
    case first =>
      cases v
      · have hb9 := Lib.hid (show best = pn by have := HPN.out; simpa using this)
        go_wp2_with fail
        go_meet
        exact ⟨by rw [hb9.out], rfl⟩
      · have hb9 := Lib.hid (show second = pn by have := HPN.out; simpa using this)
        go_wp2_with fail
        go_meet
        exact ⟨by rw [hb9.out], rfl⟩
    case rest =>
    obtain ⟨rfl, rfl⟩ := hcut
    go_wp2_with fail
    refine (digits_any wn _ (by omega)).mono ?_
    rintro _ w5 ⟨rfl, hb5⟩
    have HST5 := Lib.hid (HST9.out.step hb5)
    rw [HE1.out]
    clear hb5 HST9
    go_wp2_with fail
    refine (digits_any pn _ (by omega)).mono ?_
    rintro _ w6 ⟨rfl, hb6⟩
    have HST6 := Lib.hid (HST5.out.step hb6)
    rw [HE2.out]
    clear hb6 HST5
    go_wp2_with fail
    refine (wakesG_any w _ HL.out HST6.out.bel).mono ?_
    rintro _ w17 ⟨rfl, hb17⟩
    have HB17 := Lib.hid (HST6.out.bel.trans hb17)
    clear hb17
    go_wp2_with fail
    go_ret
    exact ⟨rfl, HB17.out⟩
end Go.Proofs.YtgeimnknmljplaaDoor
