/- Parts that come in: what their cells are. -/
import Derived.Test.YtjlgbihllijpbaaBeReads
import Derived.WalkKit
import Derived.OpenShut
import Derived.ChangeOld
namespace Go.Proofs.Ytjlgbihllijpbaa.Be
open Go Ev
set_option linter.unusedVariables false
set_option linter.unusedSimpArgs false
theorem cellsPart : Try.prog.cellsOf 55 = 2 := by kernel_rfl
theorem cellsInt : Try.prog.cellsOf 3 = 1 := by kernel_rfl
theorem cellsBool : Try.prog.cellsOf 4 = 1 := by kernel_rfl
theorem part_of {H : Type} {enc : TypeId × Value → H} {w : World} {base : Nat} {spare : Nat → Bool} {held : Bool} {r : List Value}
    (h : r.length = 2 ∧ ∃ n y, DataW.trod enc Try.prog w base spare held n 55 r = some y) : ∃ p : Int × Bool, r = part p ∧ (Lit.int .i64 p.1).wf = true := by
  obtain ⟨hl, n, y, h⟩ := h
  obtain ⟨xs, k, _, _, _, hxl, hf⟩ := DataW.trod_struct Try.underlying55 h
  match r, hl, xs, hxl with
  | [v0, v1], _, [y0, y1], _ =>
    have g0 := hf 0 _ rfl
    have g1 := hf 1 _ rfl
    obtain ⟨n0, e0, _, w0⟩ := DataW.trod_int Try.underlying3 (x := y0) g0
    obtain ⟨b1, e1, _⟩ := DataW.trod_bool Try.underlying4 (x := y1) g1
    change List.take (Try.prog.cellsOf 3) (List.drop 0 [v0, v1]) = _ at e0
    change List.take (Try.prog.cellsOf 4) (List.drop 1 [v0, v1]) = _ at e1
    rw [cellsInt] at e0
    rw [cellsBool] at e1
    simp at e0 e1
    exact ⟨(n0, b1), by rw [e0, e1]; rfl, w0⟩
end Go.Proofs.Ytjlgbihllijpbaa.Be
