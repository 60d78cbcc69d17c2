/- be.Xor and its plain counterpart. -/
import Derived.Test.YtjlgbihllijpbaaProg
import Derived.Test.YtjlgbihllijpbaaBeM2
import Derived.KernelRfl
namespace Go.Proofs.Ytjlgbihllijpbaa.Be
open Go Ev
set_option linter.unusedVariables false
set_option linter.unusedSimpArgs false

theorem xor_no {a b : ByteArray} (h : a.size ≠ b.size) : Ending.returned (oneOrMany [.string { data := #[] }, .int .i64 6]) = .returned (.tuple #[.string (xorS a b), .int .i64 (xorE a b)]) := by
  have e1 : xorS a b = str [] := if_neg h
  have e2 : xorE a b = 6 := if_neg h
  rw [e1, e2]; rfl
theorem xor_ok {a b : ByteArray} {i : Nat} (h : a.size = b.size) (hi : a.size ≤ i) : Ending.returned (oneOrMany [.string (str (List.take i (xo a b))), .int .i64 0]) = .returned (.tuple #[.string (xorS a b), .int .i64 (xorE a b)]) := by
  have e1 : xorS a b = str (xo a b) := if_pos h
  have e2 : xorE a b = 0 := if_pos h
  rw [e1, e2, List.take_of_length_le (by rw [xo_length h]; exact hi)]; rfl
theorem xor (a b : ByteArray) (ha : a.size ≤ 140737488351232) : Fnc Try.prog 25 [.string a, .string b] [] (Ret (.tuple #[.string (xorS a b), .int .i64 (xorE a b)]) []) := by
  refine fn_intro Try.func25 (by kernel_rfl) ?_
  repeat' ((conv => whnf); first
      | refine mk_row rfl rfl rfl rfl rfl (by omega) (by omega) (by show ((1 : Nat) : Int) * _ ≤ _; omega) (fun g => ?_)
      | refine ld1_lit ?_
      | refine ldN_lit ?_
      | refine nw (fun n => ?_)
      | refine st_lit rfl ?_
      | refine need (by first | rfl | omega) ?_
      | (refine wr (fun z hz => ?_); (try rw [Int.tdiv_eq_ediv_of_nonneg (by omega)] at hz); rw [w64 (by omega) (by omega)] at hz; subst hz)
      | (refine zv (fun z hz => ?_); (try rw [Int.tmod_eq_emod_of_nonneg (by omega)] at hz); subst hz)
      | (refine ifs (fun h => ?_) (fun h => ?_) <;> (try (exfalso; first | omega | with_reducible contradiction | with_reducible exact h rfl)))
      | refine fin_nil ⟨?_, rfl⟩)
  any_goals refine loop_rule [18] (fun vs M m => ∃ i : Nat, vs = [.int .i64 i] ∧ i ≤ a.size ∧ M = [⟨g, .row (u8s ((xo a b).take i) ++ List.replicate (a.size - i) (.int .u8 0)) 5⟩] ∧ m = a.size - i) rfl ?_ ?_
  all_goals first | exact fin_all ⟨_, 0, rfl, by omega, by simp [u8s], rfl⟩ | skip
  all_goals first | (rintro vs junk M' m ⟨i, rfl, h1, rfl, rfl⟩) | skip
  repeat' ((conv => whnf); first
      | refine draw_tail 10 rfl (by kernel_rfl) ?_
      | refine need ⟨by omega, by omega⟩ ?_
      | (have hl := xo_length (a := a) (b := b) (by omega); have hx := xor_at (a := a) (b := b) (i := i) (by omega) (by omega) (by omega); refine wr (fun z hz => ?_); rw [Int.toNat_natCast, hx] at hz; subst hz)
      | (refine nv (fun z hz => ?_); simp at hz; replace hz := hz.symm; subst hz)
      | refine st_row rfl (by simp [xo_length (a := a) (b := b) (by omega)]; omega) ?_
      | refine b2s_row (l := (xo a b).take i) (junk := List.replicate (a.size - i) (.int .u8 0)) rfl rfl rfl rfl (by simp [xo_length (a := a) (b := b) (by omega)]; omega) ?_
      | refine ld1_lit ?_
      | refine ldN_lit ?_
      | refine nw (fun n => ?_)
      | refine st_lit rfl ?_
      | refine need (by first | rfl | omega) ?_
      | (refine wr (fun z hz => ?_); (try rw [Int.tdiv_eq_ediv_of_nonneg (by omega)] at hz); rw [w64 (by omega) (by omega)] at hz; subst hz)
      | (refine zv (fun z hz => ?_); (try rw [Int.tmod_eq_emod_of_nonneg (by omega)] at hz); subst hz)
      | (refine ifs (fun h => ?_) (fun h => ?_) <;> (try (exfalso; first | omega | with_reducible contradiction | with_reducible exact h rfl)))
      | refine fin_nil ⟨?_, rfl⟩)
  all_goals first
    | exact xor_no (by omega)
    | exact xor_ok (by omega) (by omega)
    | skip
  all_goals (conv => whnf)
  refine ⟨rfl, fin_all ⟨a.size - (i + 1), by omega, i + 1, rfl, by omega, ?_, rfl⟩⟩
  have hl := xo_length (a := a) (b := b) (by omega)
  rw [row_next (l := xo a b) (i := i) (by omega) hl.symm rfl]
end Go.Proofs.Ytjlgbihllijpbaa.Be
