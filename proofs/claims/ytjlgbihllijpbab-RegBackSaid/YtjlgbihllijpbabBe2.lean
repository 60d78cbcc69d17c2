/- be.Xor and its plain counterpart. -/
import Derived.Test.YtjlgbihllijpbabProg
import Derived.Test.YtjlgbihllijpbabBeM2
import Derived.KernelRfl
namespace Go.Proofs.Ytjlgbihllijpbab.Be
open Go Ev
set_option linter.unusedVariables false
set_option maxRecDepth 100000
set_option linter.unusedSimpArgs false

theorem xor_no {a b : ByteArray} (h : a.size ≠ b.size) : Ending.returned (oneOrMany [.string { data := #[] }, .int .i64 6]) = .returned (.tuple #[.string (xorS a b), .int .i64 (xorE a b)]) := by
  have e1 : xorS a b = str [] := if_neg h
  have e2 : xorE a b = 6 := if_neg h
  rw [e1, e2]; rfl
theorem xor_ok {a b : ByteArray} {i : Nat} (h : a.size = b.size) (hi : a.size ≤ i) : Ending.returned (oneOrMany [.string (str (List.take i (xo a b))), .int .i64 0]) = .returned (.tuple #[.string (xorS a b), .int .i64 (xorE a b)]) := by
  have e1 : xorS a b = str (xo a b) := if_pos h
  have e2 : xorE a b = 0 := if_pos h
  rw [e1, e2, List.take_of_length_le (by rw [xo_length h]; exact hi)]; rfl
end Go.Proofs.Ytjlgbihllijpbab.Be
