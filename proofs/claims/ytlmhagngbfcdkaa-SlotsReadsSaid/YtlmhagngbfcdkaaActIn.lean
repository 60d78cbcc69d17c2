/- An act that comes in. -/
import Derived.Test.YtlmhagngbfcdkaaSlots3
import Derived.Test.YtlmhagngbfcdkaaEk
namespace Go.Proofs.Ytlmhagngbfcdkaa.Slots
open Go Ev Be
set_option linter.unusedVariables false
set_option linter.unusedSimpArgs false
set_option maxRecDepth 100000
theorem fits_cons {k : Kd} {ks : List Kd} {vs : List Value} (h : FitsW (k :: ks) vs) : ∃ v vs', vs = v :: vs' ∧ k.okw v ∧ FitsW ks vs' := by
  cases vs with
  | nil => exact h.elim
  | cons v vs' => exact ⟨v, vs', rfl, h.1, h.2⟩
abbrev actL (k g s p : Int) (v d : Bool) : List Value := [.int .i64 k, .int .i64 g, .int .i64 s, .int .i64 p, .bool v, .bool d]
theorem act_in {cs : List Value} (h : FitsW [.int .i64, .int .i64, .int .i64, .int .i64, .bool, .bool] cs) : ∃ (k g s p : Int) (v d : Bool), cs = actL k g s p v d := by
  obtain ⟨_, _, rfl, ⟨k, rfl, _⟩, h1⟩ := fits_cons h
  obtain ⟨_, _, rfl, ⟨g, rfl, _⟩, h2⟩ := fits_cons h1
  obtain ⟨_, _, rfl, ⟨s, rfl, _⟩, h3⟩ := fits_cons h2
  obtain ⟨_, _, rfl, ⟨p, rfl, _⟩, h4⟩ := fits_cons h3
  obtain ⟨_, _, rfl, ⟨v, rfl⟩, h5⟩ := fits_cons h4
  obtain ⟨_, _, rfl, ⟨d, rfl⟩, h6⟩ := fits_cons h5
  have := h6.length
  rw [List.eq_nil_of_length_eq_zero this]
  exact ⟨k, g, s, p, v, d, rfl⟩
theorem kAct : kindsOf Try.prog 3 33 = some [.int .i64, .int .i64, .int .i64, .int .i64, .bool, .bool] := by kernel_rfl
theorem cellsAct : Try.prog.cellsOf 33 = [Kd.int .i64, Kd.int .i64, Kd.int .i64, Kd.int .i64, Kd.bool, Kd.bool].length := by kernel_rfl
end Go.Proofs.Ytlmhagngbfcdkaa.Slots
