/- Results that lie in memory. Conditions: those named in each theorem. -/
import Derived.Test.YteockodnfempfaaGv
namespace Go.Proofs.Yteockodnfempfaa
open Go Go.RowKit Go.Gv
theorem results_cell_tmp {P : Program} {fn : Func} {α : Type} [Enc α] {a u : Tmp} {t : TypeId} {tmps : Array Value} {w : World} {ad : Addr} {x : α} (hres : fn.results = #[.cell a t, .tmp u]) (ha : tmps.getD a undef = .pointer (some ad)) (h1 : aggT P t = true) (h2 : sizeT P t = Enc.n α) (hg : get? α w ad = some x) :
    (results fn tmps).run P w = .ok (.tuple #[.agg (Enc.enc x).toArray, tmps.getD u undef]) w := by
  have hl := run_loadVar_get (P := P) h1 h2 hg
  simp only [Array.getD_eq_getD_getElem?] at ha
  simp [results, hres, ha, asAddr, hl]
theorem results_cell {P : Program} {fn : Func} {α : Type} [Enc α] {a : Tmp} {t : TypeId} {tmps : Array Value} {w : World} {ad : Addr} {x : α} (hres : fn.results = #[.cell a t]) (ha : tmps.getD a undef = .pointer (some ad)) (h1 : aggT P t = true) (h2 : sizeT P t = Enc.n α) (hg : get? α w ad = some x) :
    (results fn tmps).run P w = .ok (.agg (Enc.enc x).toArray) w := by
  have hl := run_loadVar_get (P := P) h1 h2 hg
  simp only [Array.getD_eq_getD_getElem?] at ha
  simp [results, hres, ha, asAddr, hl]
end Go.Proofs.Yteockodnfempfaa
