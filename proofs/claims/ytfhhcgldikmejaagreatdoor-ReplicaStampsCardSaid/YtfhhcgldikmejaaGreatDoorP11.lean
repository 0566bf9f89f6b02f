/- What the frames of this seat's laws share: the listed variables, the world of the witness, the wrap that hands the world's shape on; no function of this seat starts a goroutine. Conditions: those named in each theorem. -/
import Derived.Test.YtfhhcgldikmejaaGreatDoorP1
import Derived.ProofKit
import Derived.DataShut
import Derived.OpenShut
import Derived.Test.YtfhhcgldikmejaaGreatDoorP2
import Derived.Test.YtfhhcgldikmejaaGreatDoorTie
import Derived.Handed
import Derived.Lay
import Derived.LaidMore
import Derived.Stop.Joined
import Derived.Stop.LaidErr
import Derived.Lib.LaidTab
import Derived.SevenTiedAt
/- Arguments that came in read as Lean values; the frame of a law that returns true. Conditions: those named in each theorem. -/
namespace Go.Gv
open Go Go.RowKit

/-- What an argument's cells read as, for a type whose values have an encoding. -/
def Opens (P : Program) (W : World) (t : TypeId) (α : Type) [Enc α] (Ok : α → Prop) : Prop :=
  ∀ (H : Type) (enc : TypeId × Value → H) (fuel : Nat) (cs : List Value) (x : DataW H × List MemPlace), DataW.trod enc P W 0 (fun _ => true) true fuel t cs = some x → ∃ y : α, cs = Enc.enc y ∧ Ok y

def FitI (k : IntKind) (n : Int) : Prop := (Lit.int k n).wf = true
theorem FitI.i64 {n : Int} (h : FitI .i64 n) : -9223372036854775808 ≤ n ∧ n ≤ 9223372036854775807 := by
  have h := (Lit.wf_int_iff _ _).1 h
  have e1 : IntKind.i64.min = -9223372036854775808 := rfl
  have e2 : IntKind.i64.max = 9223372036854775807 := rfl
  omega
theorem FitI.u64 {n : Int} (h : FitI .u64 n) : 0 ≤ n ∧ n ≤ 18446744073709551615 := by
  have h := (Lit.wf_int_iff _ _).1 h
  have e1 : IntKind.u64.min = 0 := rfl
  have e2 : IntKind.u64.max = 18446744073709551615 := rfl
  omega
theorem FitI.u8 {n : Int} (h : FitI .u8 n) : 0 ≤ n ∧ n ≤ 255 := by
  have h := (Lit.wf_int_iff _ _).1 h
  have e1 : IntKind.u8.min = 0 := rfl
  have e2 : IntKind.u8.max = 255 := rfl
  omega

section
variable {P : Program} {W : World} {t e : TypeId}
theorem opens_i64 (ht : P.underlying t = some (.int .i64)) : Opens P W t I64 (fun x => FitI .i64 x.v) := fun H enc fuel cs x h => by
  obtain ⟨n, rfl, _, hw⟩ := DataW.trod_int ht h
  exact ⟨⟨n⟩, rfl, hw⟩
theorem opens_u64 (ht : P.underlying t = some (.int .u64)) : Opens P W t U64 (fun x => FitI .u64 x.v) := fun H enc fuel cs x h => by
  obtain ⟨n, rfl, _, hw⟩ := DataW.trod_int ht h
  exact ⟨⟨n⟩, rfl, hw⟩
theorem opens_bool (ht : P.underlying t = some .bool) : Opens P W t BoolV (fun _ => True) := fun H enc fuel cs x h => by
  obtain ⟨b, rfl, _⟩ := DataW.trod_bool ht h
  exact ⟨⟨b⟩, rfl, trivial⟩
theorem opens_string (ht : P.underlying t = some .string) : Opens P W t StrV (fun x => x.v.size ≤ maxLen) := fun H enc fuel cs x h => by
  obtain ⟨s, rfl, _, hs⟩ := DataW.trod_string ht h
  exact ⟨⟨s⟩, rfl, hs⟩
theorem u8_of {n : Int} (h : FitI .u8 n) : ∃ b : UInt8, Value.int .u8 n = encU8 b := by
  have := FitI.u8 h
  refine ⟨UInt8.ofNat n.toNat, ?_⟩
  unfold encU8
  congr 1
  rw [UInt8.toNat_ofNat']
  omega
theorem opens_u8 (ht : P.underlying t = some (.int .u8)) : Opens P W t U8 (fun _ => True) := fun H enc fuel cs x h => by
  obtain ⟨n, rfl, _, hw⟩ := DataW.trod_int ht h
  obtain ⟨b, hb⟩ := u8_of hw
  exact ⟨⟨b⟩, by rw [hb]; rfl, trivial⟩
theorem bytes_of : ∀ (cs : List Value), (∀ v ∈ cs, ∃ b : UInt8, v = encU8 b) → ∃ l : List UInt8, cs = l.map encU8
  | [], _ => ⟨[], rfl⟩
  | v :: cs, h => by
    obtain ⟨b, rfl⟩ := h v (by simp)
    obtain ⟨l, rfl⟩ := bytes_of cs fun v hv => h v (by simp [hv])
    exact ⟨b :: l, rfl⟩
theorem opens_hash {t8 : TypeId} (ht : P.underlying t = some (.array 32 t8)) (hs : P.cellsOf t = 32) (h8 : P.underlying t8 = some (.int .u8)) (hs8 : P.cellsOf t8 = 1) : Opens P W t GHash (fun _ => True) := fun H enc fuel cs x h => by
  obtain ⟨xs, m, _, _, hl, hxl, hx⟩ := DataW.trod_array ht h
  rw [hs] at hl
  obtain ⟨l, hl'⟩ := bytes_of cs fun v hv => by
    obtain ⟨i, hi, rfl⟩ := List.mem_iff_getElem.1 hv
    have h1 := hx i (by omega)
    rw [hs8, Nat.mul_one, List.getElem?_eq_getElem (by omega), List.drop_eq_getElem_cons hi] at h1
    obtain ⟨n, e, _, hw⟩ := DataW.trod_int h8 h1
    injection e with e _
    rw [e]; exact u8_of hw
  subst hl'
  exact ⟨⟨l, by simpa using hl⟩, rfl, trivial⟩
/-- A slice's own cells, its elements read as values of α. -/
def SlOk (W : World) (α : Type) [Enc α] (Ok : α → Prop) (h : Hdr) : Prop := ∃ xs : List α, Sl α W W.heap.size h.a h.len xs ∧ (∀ x ∈ xs, Ok x) ∧ h.len ≤ h.cap ∧ h.cap ≤ maxLen
theorem opens_slice {α : Type} [Enc α] {Ok : α → Prop} (ht : P.underlying t = some (.slice e)) (hc : P.cellsOf e = Enc.n α) (he : Opens P W e α Ok) : Opens P W t Hdr (SlOk W α Ok) := fun H enc fuel cs x h => by
  rcases DataW.trod_slice ht h with ⟨rfl, _⟩ | ⟨a, len, cap, elems, rest, n, _, rfl, _, _, hl, hm, hlen, hel, hsp⟩
  · exact ⟨⟨none, 0, 0⟩, rfl, [], Sl.nil, by simp, by simp, by simp⟩
  · rw [hc] at hel
    have key : ∀ k, k < len → ∃ y : α, get? α W (a.add (k * Enc.n α)) = some y ∧ Ok y := by
      intro k hk
      have h1 := hel k hk
      rw [List.getElem?_eq_getElem (by omega)] at h1
      obtain ⟨cs', h2, h3⟩ := Option.bind_eq_some_iff.1 h1
      obtain ⟨_, h4, h5⟩ := World.cells?_some h2
      obtain ⟨y, rfl, hok⟩ := he H enc _ _ _ h3
      refine ⟨y, get?_iff.2 fun j v hj => ?_, hok⟩
      have hj' : j < Enc.n α := by rw [← h4]; exact (List.getElem?_eq_some_iff.1 hj).1
      rw [h5 j hj', hj]
    have hxs : ∃ xs : List α, xs.length = len ∧ ∀ k y, xs[k]? = some y → get? α W (a.add (k * Enc.n α)) = some y ∧ Ok y := by
      clear h hl hm hlen hel hsp
      induction len with
      | zero => exact ⟨[], rfl, by simp⟩
      | succ m ih =>
        obtain ⟨xs, h1, h2⟩ := ih fun k hk => key k (by omega)
        obtain ⟨y, hy⟩ := key m (by omega)
        refine ⟨xs ++ [y], by simp [h1], fun k z hz => ?_⟩
        by_cases hkm : k < m
        · rw [List.getElem?_append_left (by omega)] at hz; exact h2 k z hz
        · rw [List.getElem?_append_right (by omega)] at hz
          have : k = m := by
            have := (List.getElem?_eq_some_iff.1 hz).1
            simp at this; omega
          subst this
          simp [h1] at hz
          subst hz; exact hy
    obtain ⟨xs, hx1, hx2⟩ := hxs
    refine ⟨⟨some a, len, cap⟩, rfl, xs, ⟨hx1, fun h0 => ⟨a, rfl, ?_, fun k y hy => (hx2 k y hy).1⟩⟩, ?_, hl, hm⟩
    · have := get?_lt (hx2 0 (xs[0]'(by simp only at h0; omega)) (List.getElem?_eq_getElem _)).1
      rwa [add_block] at this
    · intro y hy
      obtain ⟨k, hk, rfl⟩ := List.mem_iff_getElem.1 hy
      exact (hx2 k _ (List.getElem?_eq_getElem hk)).2
theorem drop_split (l : List Value) (o s : Nat) : l.drop o = (l.drop o).take s ++ l.drop (o + s) := by
  rw [← List.drop_drop, List.take_append_drop]
theorem open_fields {fs : Array Field} {H : Type} {enc : TypeId × Value → H} {fuel : Nat} {cs : List Value} {x : DataW H × List MemPlace} (ht : P.underlying t = some (.struct fs)) (h : DataW.trod enc P W 0 (fun _ => true) true fuel t cs = some x) :
    cs.length = P.cellsOf t ∧ ∃ n, ∀ (i : Nat) (f : Field), fs[i]? = some f → ∃ y, DataW.trod enc P W 0 (fun _ => true) true n f.type ((cs.drop f.offset).take (P.cellsOf f.type)) = some y := by
  obtain ⟨xs, n, _, _, h1, h2, h3⟩ := DataW.trod_struct ht h
  refine ⟨h1, n, fun i f hf => ⟨xs[i]'(by rw [h2]; exact (Array.getElem?_eq_some_iff.1 hf).1), ?_⟩⟩
  rw [h3 i f hf]
  exact List.getElem?_eq_getElem _
theorem open_fieldT {H : Type} {enc : TypeId × Value → H} {fuel : Nat} {cs : List Value} {x : DataW H × List MemPlace} (ht : P.underlying t = some (.struct (P.fieldsOf t))) (h : DataW.trod enc P W 0 (fun _ => true) true fuel t cs = some x) :
    cs.length = P.cellsOf t ∧ ∃ n, ∀ (i : Nat) (ft : TypeId) (off : Nat), (fieldTO P t)[i]? = some (ft, off) → ∃ y, DataW.trod enc P W 0 (fun _ => true) true n ft ((cs.drop off).take (P.cellsOf ft)) = some y := by
  obtain ⟨h1, n, h2⟩ := open_fields ht h
  refine ⟨h1, n, fun i ft off hf => ?_⟩
  unfold fieldTO at hf
  simp only [List.getElem?_map, Array.getElem?_toList, Option.map_eq_some_iff, Prod.mk.injEq] at hf
  obtain ⟨f, h3, rfl, rfl⟩ := hf
  exact h2 i f h3
theorem open_hdr {α : Type} [Enc α] {Ok : α → Prop} {H : Type} {enc : TypeId × Value → H} {v : Value} {d : DataW H} {ps : List MemPlace} (ho : Opens P W t α Ok) (h : DataW.Trod enc P W 0 (fun _ => true) true t v d ps) : ∃ y : α, v.cells.toList = Enc.enc y ∧ Ok y := by
  obtain ⟨fuel, h⟩ := h
  exact ho H enc fuel _ _ h

section
variable {H : Type} {enc : TypeId × Value → H} {v : Value} {d : DataW H} {ps : List MemPlace} {r : Reach} {base : Nat}
theorem arg_slice {Ok : Hdr → Prop} (ht : P.underlying t = some (.slice e)) (ho : Opens P W t Hdr Ok) (hv : Value.okWide P W r base t v) (h : DataW.Trod enc P W 0 (fun _ => true) true t v d ps) : ∃ (A : Option Addr) (n c : Nat), v = .slice A n c ∧ Ok ⟨A, n, c⟩ := by
  obtain ⟨a, len, cap, rfl⟩ := WideShapes.okWide_slice ht hv
  obtain ⟨y, e, hy⟩ := open_hdr ho h
  have e' : Value.slice a len cap = .slice y.a y.len y.cap := by simpa [Value.cells, Enc.enc, Hdr.val] using e
  injection e' with h1 h2 h3
  subst h1; subst h2; subst h3
  exact ⟨_, _, _, rfl, hy⟩
theorem arg_int {k : IntKind} (ht : P.underlying t = some (.int k)) (hv : Value.okWide P W r base t v) (h : DataW.Trod enc P W 0 (fun _ => true) true t v d ps) : ∃ n, v = .int k n ∧ FitI k n := by
  obtain ⟨n, rfl⟩ := WideShapes.okWide_int ht hv
  obtain ⟨fuel, h⟩ := h
  obtain ⟨m, e, _, hw⟩ := DataW.trod_int ht h
  have e' : Value.int k n = .int k m := by simpa [Value.cells] using e
  injection e' with _ e'; subst e'
  exact ⟨n, rfl, hw⟩
theorem arg_bool (ht : P.underlying t = some .bool) (hv : Value.okWide P W r base t v) : ∃ b, v = .bool b := WideShapes.okWide_bool ht hv
theorem arg_agg {α : Type} [Enc α] {Ok : α → Prop} {fs : Array Field} (ht : P.underlying t = some (.struct fs)) (ho : Opens P W t α Ok) (hv : Value.okWide P W r base t v) (h : DataW.Trod enc P W 0 (fun _ => true) true t v d ps) : ∃ y : α, v = .agg (Enc.enc y).toArray ∧ Ok y := by
  obtain ⟨cs, rfl, _⟩ := WideShapes.okWide_struct ht hv
  obtain ⟨y, e, hy⟩ := open_hdr ho h
  have e' : cs.toList = Enc.enc y := by simpa [Value.cells] using e
  exact ⟨y, by rw [← e'], hy⟩
end

/-! ### The frame of a law that returns true and leaves what was there -/
theorem trodAll_below {H : Type} {enc : TypeId × Value → H} {W' : World} (hl : laidOutB P = true) (hb : Below W.heap.size W W') : ∀ {ts : List TypeId} {vs : List Value} {ds : List (DataW H)} {ps : List MemPlace}, (ts.all fun t => P.readableRec t && decide (t < P.types.size)) = true →
    DataW.TrodAll enc P W 0 (fun _ => true) true ts vs ds ps → (∀ x ∈ ps, x.block < W.heap.size) → DataW.TrodAll enc P W' 0 (fun b => decide (b < W.heap.size)) true ts vs ds ps
  | [], [], [], ps, _, h, _ => h
  | t :: ts, v :: vs, d :: ds, ps, hr, ⟨p, q, h1, h2, hp⟩, hlt => by
    simp only [List.all_cons, Bool.and_eq_true, decide_eq_true_eq] at hr
    subst hp
    exact ⟨p, q, Below.trod hl hr.1.1 hr.1.2 h1 hb (fun x hx => hlt x (by simp [hx])), trodAll_below hl hb hr.2 h2 (fun x hx => hlt x (by simp [hx])), rfl⟩
  | [], _ :: _, _, _, _, h, _ => h.elim
  | [], [], _ :: _, _, _, h, _ => h.elim
  | _ :: _, [], _, _, _, h, _ => h.elim
  | _ :: _, _ :: _, [], _, _, h, _ => h.elim
theorem law_post {H : Type} {enc : TypeId × Value → H} {f : Func} {s : ChangeSpec} {W' : World} {args : Array Value} {ds : List (DataW H)} {before : List MemPlace} {tb : TypeId}
    (hl : laidOutB P = true) (hr : (f.params.toList.all fun t => P.readableRec t && decide (t < P.types.size)) = true) (hf : f.resultTypes = #[tb]) (htb : P.underlying tb = some .bool)
    (hW : DataW.Whole enc P f.params.toList s.vars false W args.toList ds [] before) (hv : s.vars = []) (hs : s.fn H (ds ++ []) = { results := [.lit (.bool true)], args := ds }) (hb : Below W.heap.size W W') :
    s.post enc P f false true false false W args (.bool true) W' := by
  have hW' := hW
  obtain ⟨p, q, hA, hV, rfl, _, _⟩ := hW
  rw [hv] at hV
  obtain ⟨_, rfl⟩ := ChangeShapes.trodVars_none hV
  refine ⟨ds, [], _, [] ++ [], p, [], hW', ?_, ?_, ?_, hb.frame _, fun h => by cases h⟩
  · rw [hs, hf]
    exact ChangeShapes.trodAll_mk1 (shut_bool htb true)
  · rw [hs]
    exact trodAll_below hl hb hr hA fun x hx => by simpa using hW'.lt x (by simp [hx])
  · rw [hs, hv]; rfl
end
end Go.Gv
/- What the arguments of this seat read as. Conditions: those named in each theorem. -/
namespace Go.Proofs.YtfhhcgldikmejaaGreatDoor
open Go Go.RowKit Go.Gv

theorem cz33 : Tryz.prog.cellsOf 33 = 2 := by kernel_rfl
theorem cz3 : Tryz.prog.cellsOf 3 = 1 := by kernel_rfl
def ok33 (_W : World) (x : GName) : Prop := FitI .i64 x.client ∧ FitI .i64 x.seq
theorem op33 (W : World) : Opens Tryz.prog W 33 GName (ok33 W) := fun H enc fuel cs x h => by
  obtain ⟨hl, n, hf⟩ := open_fieldT uu33 h
  rw [cz33] at hl
  obtain ⟨y0, h0⟩ := hf 0 3 0 (by rw [fl33]; rfl)
  obtain ⟨n0, e0, _, k0⟩ := DataW.trod_int uk3 h0
  rw [cz3] at e0
  have s0 : cs.drop 0 = [.int .i64 n0] ++ cs.drop 1 := by rw [← e0]; exact drop_split cs 0 1
  obtain ⟨y1, h1⟩ := hf 1 3 1 (by rw [fl33]; rfl)
  obtain ⟨n1, e1, _, k1⟩ := DataW.trod_int uk3 h1
  rw [cz3] at e1
  have s1 : cs.drop 1 = [.int .i64 n1] ++ cs.drop 2 := by rw [← e1]; exact drop_split cs 1 1
  have hz : cs.drop 2 = [] := List.drop_eq_nil_of_le (by omega)
  refine ⟨⟨n0, n1⟩, ?_, k0, k1⟩
  have hh : cs.drop 0 = [.int .i64 n0] ++ ([.int .i64 n1]) := by rw [s0, s1, hz, List.append_nil]
  exact hh
theorem cz61 : Tryz.prog.cellsOf 61 = 1 := by kernel_rfl
theorem cz5 : Tryz.prog.cellsOf 5 = 1 := by kernel_rfl
theorem op5 (W : World) : Opens Tryz.prog W 5 U8 (fun _ => True) := opens_u8 (by kernel_rfl)
theorem op61 (W : World) : Opens Tryz.prog W 61 Hdr (SlOk W U8 (fun _ => True)) := opens_slice (e := 5) (by kernel_rfl) (cz5.trans rfl) (op5 W)
theorem op3 (W : World) : Opens Tryz.prog W 3 I64 (fun x => FitI .i64 x.v) := opens_i64 (by kernel_rfl)
end Go.Proofs.YtfhhcgldikmejaaGreatDoor
/- Facts that the frames of all laws of this seat share. Conditions: none. -/
namespace Go.Proofs.YtfhhcgldikmejaaGreatDoor
open Go Go.RowKit Go.Gv
theorem ownK : ownKnob Tryz.prog.godebug = none := by kernel_rfl
theorem laidK : laidOutB Tryz.prog = true := by kernel_rfl
end Go.Proofs.YtfhhcgldikmejaaGreatDoor
/- What the frames of this seat's laws share: the listed variables, the world of the witness, the wrap that hands the world's shape on; no function of this seat starts a goroutine. Conditions: those named in each theorem. -/
namespace Go.Proofs.YtfhhcgldikmejaaGreatDoor
open Go Go.RowKit Go.Gv Go.ChangeShapes Go.WideShapes Go.ChangeAt

/-- The wrap of a law with listed variables: the contract is handed what they hold, and the world's shape. -/
theorem returns_laid {H : Type} {enc : TypeId × Value → H} {a : Assume} {C : Checked} {os : Os} {f : FuncId} {fn : Func} {s : ChangeSpec} {conds : List PathCond} {apart fresh handsOn again : Bool} {laid : List (String × DataW Unit)}
    (own : ownKnob C.prog.godebug = none) (started : os.Started) (noInit : C.prog.inits.idxOf? f = none) (hfn : C.prog.funcs[f]? = some fn)
    (witness : ∃ (w : World) (tape : Tape) (i : Input), w.os = os ∧ (w.forCall tape i).Shaped C.prog ∧ i.vars = [] ∧ Input.okWide C.prog (w.forCall tape i) .any w.heap.size f i ∧
      ((s.pre enc C.prog fn conds apart (w.forCall tape i).memory i.args ∧ laidMetH C.prog laid (w.forCall tape i).memory) ∧ sizedMet enc C.prog fn (OpenSpec.ofChange s) apart (w.forCall tape i).memory i.args) ∧ a.holds C.prog (lone (Frame.enter C.prog f i.args .normal) [] (w.forCall tape i)))
    (contract : ∀ (W : World) (base : Nat) (args : Array Value) (ds gs : List (DataW H)) (before : List MemPlace),
      (∀ (j : Nat) t v, fn.params[j]? = some t → args[j]? = some v → Value.okWide C.prog W .any base t v) →
      DataW.Whole enc C.prog fn.params.toList s.vars apart W args.toList ds gs before → laidMetH C.prog laid W → W.ShapedOpen C.prog →
      Calls C.prog f args W fun e W' => ∃ v, e = .returned v ∧ s.post enc C.prog fn apart fresh handsOn again W args v W') :
    ReturnsInHanded a C os f .any (fun w args => (s.pre enc C.prog fn conds apart w args ∧ laidMetH C.prog laid w) ∧ sizedMet enc C.prog fn (OpenSpec.ofChange s) apart w args) (s.post enc C.prog fn apart fresh handsOn again) := by
  refine returnsInHanded_of_calls own started noInit witness ?_
  intro w tape i _ hsh _ hok hpre _
  obtain ⟨_, _, _, fn', hfn', _, _, _, _, hval⟩ := hok
  have e : fn' = fn := Option.some.inj (hfn'.symm.trans hfn)
  subst e
  obtain ⟨⟨⟨ds, gs, before, hw, _⟩, hx⟩, _⟩ := hpre
  have hw' := DataW.Whole.of_heap (w' := w.forCall tape i) (by rfl) hw
  refine (contract (w.forCall tape i) w.heap.size i.args ds gs before hval hw' (hx.of_heap (by rfl)) hsh).mono fun e W' ⟨v, he, hp⟩ => ?_
  subst he
  exact ChangeSpec.post_blind hp

/-- The variables that each row of this seat lists. -/
def laidL : List (String × DataW Unit) := [("math/bits.deBruijn32tab", Rows.laid_math_bits_deBruijn32tab), ("math/bits.deBruijn64tab", Rows.laid_math_bits_deBruijn64tab), ("internal/strconv.uint64pow10", Rows.laid_internal_strconv_uint64pow10), ("unicode/utf8.acceptRanges", Rows.laid_unicode_utf8_acceptRanges), ("unicode/utf8.first", Rows.laid_unicode_utf8_first)]
theorem laid_plain : (laidL.all fun x => x.2.handleName?.isNone) = true := by kernel_rfl
theorem wit_fits (os : Os) : (World.holding Tryz.prog os ⟨#[], #[], []⟩).layFits Tryz.prog laidL [] = true := by kernel_rfl
theorem wit_ifaces (os : Os) : (World.holding Tryz.prog os ⟨#[], #[], []⟩).layIfaces Tryz.prog laidL (World.laidAll Tryz.prog os laidL) = true := by kernel_rfl
theorem wit_laid (os : Os) (args : Array Value) : laidMetH Tryz.prog laidL ((World.laidAll Tryz.prog os laidL).forCall (fun _ _ => 0) ⟨#[], args, []⟩).memory := by
  rw [MakeChecks.laidMetH_plain _ _ _ laid_plain]
  exact laidMet_laidAll _ (wit_fits os) (wit_ifaces os)
theorem goes_all : (Tryz.prog.funcs.all fun f => !f.goes) = true := by kernel_rfl
theorem goes_none {P : Program} (h : (P.funcs.all fun f => !f.goes) = true) (f : FuncId) : P.goes f = false := by
  have h1 : ∀ g : Func, g ∈ P.funcs → g.goes = false := fun g hg => by
    have := Array.all_eq_true_iff_forall_mem.1 h g hg
    simpa using this
  unfold Program.goes
  have h2 : P.funcs.any Func.goes = false := by
    rw [Array.any_eq_false]
    intro i hi
    simp [h1 _ (Array.getElem_mem hi)]
  rw [h2, Bool.and_false, Bool.or_false, List.any_eq_false]
  intro g _
  cases hq : P.funcs[g]? with
  | none => simp
  | some x => simp [h1 x (Array.mem_of_getElem? hq)]
theorem goesBy_none {P : Program} {c : OpenClaim} (h : (P.funcs.all fun f => !f.goes) = true) (hs : c.start = .entering) : false = c.goesBy P := by
  unfold OpenClaim.goesBy Program.goesAt Program.goesFrom
  rw [hs]
  cases P.funcNamed c.func with
  | none => rfl
  | some f => simp [goes_none h f]
end Go.Proofs.YtfhhcgldikmejaaGreatDoor
