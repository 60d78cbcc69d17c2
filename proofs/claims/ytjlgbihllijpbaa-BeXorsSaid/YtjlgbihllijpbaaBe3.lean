/- The plain counterpart of be.Xor. -/
import Derived.Test.YtjlgbihllijpbaaProg
import Derived.Test.YtjlgbihllijpbaaBeM2
import Derived.KernelRfl
namespace Go.Proofs.Ytjlgbihllijpbaa.Be
open Go Ev
set_option linter.unusedVariables false
set_option linter.unusedSimpArgs false

theorem ret_str {a b : ByteArray} (h : a = b) : Ending.returned (oneOrMany [.string a]) = .returned (.string b) := by rw [h]; rfl
theorem xor01 (a b : ByteArray) (h : a.size = b.size) (ha : a.size ≤ 140737488351232) : Fnc Try.prog 26 [.string a, .string b] [] (Ret (.string (str (xo a b))) []) := by
  refine fn_intro Try.func26 (by kernel_rfl) ?_
  repeat' ((conv => whnf); first
      | refine ld1_lit ?_
      | refine ldN_lit ?_
      | refine nw (fun n => ?_)
      | refine st_lit rfl ?_
      | refine need (by first | rfl | omega) ?_
      | (refine wr (fun z hz => ?_); (try rw [Int.tdiv_eq_ediv_of_nonneg (by omega)] at hz); rw [w64 (by omega) (by omega)] at hz; subst hz)
      | (refine zv (fun z hz => ?_); (try rw [Int.tmod_eq_emod_of_nonneg (by omega)] at hz); subst hz)
      | (refine ifs (fun h => ?_) (fun h => ?_) <;> (try (exfalso; first | omega | with_reducible contradiction | with_reducible exact h rfl)))
      | refine fin_nil ⟨?_, rfl⟩)
  any_goals refine loop_rule [5, 6] (fun vs M m => ∃ i : Nat, ∃ S : Own, vs = [S.val i, .int .i64 i] ∧ i ≤ a.size ∧ M = S.blk 5 (u8s ((xo a b).take i)) ∧ S.ok 1 i (u8s ((xo a b).take i)) ∧ m = a.size - i) rfl ?_ ?_
  all_goals first | exact fin_all ⟨_, 0, .nil, rfl, by omega, rfl, ⟨rfl, rfl⟩, rfl⟩ | skip
  all_goals first | (rintro vs junk M' m ⟨i, S, rfl, h1, rfl, hS, rfl⟩) | skip
  repeat' ((conv => whnf); first
      | refine ld1_lit ?_
      | refine ldN_lit ?_
      | refine nw (fun n => ?_)
      | refine st_lit rfl ?_
      | refine need (by first | rfl | omega) ?_
      | (refine wr (fun z hz => ?_); (try rw [Int.tdiv_eq_ediv_of_nonneg (by omega)] at hz); rw [w64 (by omega) (by omega)] at hz; subst hz)
      | (refine zv (fun z hz => ?_); (try rw [Int.tmod_eq_emod_of_nonneg (by omega)] at hz); subst hz)
      | (refine ifs (fun h => ?_) (fun h => ?_) <;> (try (exfalso; first | omega | with_reducible contradiction | with_reducible exact h rfl)))
      | refine fin_nil ⟨?_, rfl⟩)
  rotate_left
  · repeat' ((conv => whnf); first
      | refine b2s_own (t := 5) (l := (xo a b).take i) hS rfl rfl rfl ?_
      | refine ld1_lit ?_
      | refine ldN_lit ?_
      | refine nw (fun n => ?_)
      | refine st_lit rfl ?_
      | refine need (by first | rfl | omega) ?_
      | (refine wr (fun z hz => ?_); (try rw [Int.tdiv_eq_ediv_of_nonneg (by omega)] at hz); rw [w64 (by omega) (by omega)] at hz; subst hz)
      | (refine zv (fun z hz => ?_); (try rw [Int.tmod_eq_emod_of_nonneg (by omega)] at hz); subst hz)
      | (refine ifs (fun h => ?_) (fun h => ?_) <;> (try (exfalso; first | omega | with_reducible contradiction | with_reducible exact h rfl)))
      | refine fin_nil ⟨?_, rfl⟩)
    exact ret_str (congrArg str (List.take_of_length_le (by rw [xo_length (by omega)]; omega)))
  obtain ⟨x, y, hx, hy, hg⟩ := xo_get (a := a) (b := b) ‹_› (show i < a.size by omega)
  have hx' := x.toNat_lt
  have hy' := y.toNat_lt
  refine loop_rule [7, 8, 9] (fun vs M m => ∃ k : Nat, vs = [.int .i64 (((x ^^^ y).toNat % 2 ^ k : Nat) : Int), .int .i64 ((2 ^ k : Nat) : Int), .int .i64 k] ∧ k ≤ 8 ∧ M = S.blk 5 (u8s ((xo a b).take i)) ∧ m = 8 - k) rfl ?_ ?_
  · exact fin_all ⟨_, 0, by simp [Nat.mod_one], by omega, rfl, rfl⟩
  rintro vs junk M' m ⟨k, rfl, h2, rfl, rfl⟩
  repeat' ((conv => whnf); first
      | refine draw_quiet rfl (by kernel_rfl) ?_
      | refine need ⟨by omega, by omega⟩ ?_
      | (refine wr (fun z hz => ?_); rw [Int.toNat_natCast, hx, w64 (by omega) (by omega)] at hz; subst hz)
      | (refine wr (fun z hz => ?_); rw [Int.toNat_natCast, hy, w64 (by omega) (by omega)] at hz; subst hz)
      | (refine wr (fun z hz => ?_); rw [quo_pow (by omega)] at hz; subst hz)
      | (refine zv (fun z hz => ?_); rw [rem_two] at hz; subst hz)
      | refine need (by have := Nat.two_pow_pos k; omega) ?_
      | (refine wr (fun z hz => ?_); rw [add_pow' (by omega)] at hz; subst hz)
      | (refine wr (fun z hz => ?_); rw [dbl_pow (by omega)] at hz; subst hz)
      | (refine wr (fun z hz => ?_); rw [byte_end (by omega)] at hz; subst hz)
      | refine ld1_lit ?_
      | refine ldN_lit ?_
      | refine nw (fun n => ?_)
      | refine st_lit rfl ?_
      | refine need (by first | rfl | omega) ?_
      | (refine wr (fun z hz => ?_); (try rw [Int.tdiv_eq_ediv_of_nonneg (by omega)] at hz); rw [w64 (by omega) (by omega)] at hz; subst hz)
      | (refine zv (fun z hz => ?_); (try rw [Int.tmod_eq_emod_of_nonneg (by omega)] at hz); subst hz)
      | (refine ifs (fun h => ?_) (fun h => ?_) <;> (try (exfalso; first | omega | with_reducible contradiction | with_reducible exact h rfl)))
      | refine fin_nil ⟨?_, rfl⟩)
  all_goals (conv => whnf)
  · exact ⟨rfl, fin_all ⟨8 - (k + 1), by omega, k + 1, by rw [xor_eq ‹_›]; rfl, by omega, rfl, rfl⟩⟩
  · exact ⟨rfl, fin_all ⟨8 - (k + 1), by omega, k + 1, by rw [xor_ne ‹_›]; rfl, by omega, rfl, rfl⟩⟩
  have hlen := xo_length (a := a) (b := b) ‹_›
  have htk : u8s ((xo a b).take (i + 1)) = u8s ((xo a b).take i) ++ [.int .u8 ((x ^^^ y).toNat : Int)] := by
    obtain ⟨hl, hv⟩ := List.getElem?_eq_some_iff.1 hg
    rw [List.take_succ_eq_append_getElem hl, hv, u8s_append]; rfl
  refine app_cells (z := .int .u8 0) (news := [.int .u8 ((x ^^^ y).toNat : Int)]) rfl rfl rfl rfl rfl hS rfl (by intro u hu; simp only [List.mem_singleton] at hu; subst hu; rfl) ?_ (by omega) cells_at (fun S' hS' => ?_)
  · show (i + 1) * 1 ≤ _; omega
  repeat' ((conv => whnf); first
      | refine ld1_lit ?_
      | refine ldN_lit ?_
      | refine nw (fun n => ?_)
      | refine st_lit rfl ?_
      | refine need (by first | rfl | omega) ?_
      | (refine wr (fun z hz => ?_); (try rw [Int.tdiv_eq_ediv_of_nonneg (by omega)] at hz); rw [w64 (by omega) (by omega)] at hz; subst hz)
      | (refine zv (fun z hz => ?_); (try rw [Int.tmod_eq_emod_of_nonneg (by omega)] at hz); subst hz)
      | (refine ifs (fun h => ?_) (fun h => ?_) <;> (try (exfalso; first | omega | with_reducible contradiction | with_reducible exact h rfl)))
      | refine fin_nil ⟨?_, rfl⟩)
  (conv => whnf)
  exact ⟨rfl, fin_drop (fin_all ⟨a.size - (i + 1), by omega, i + 1, S', rfl, by omega, by rw [htk], by rw [htk]; exact hS', rfl⟩)⟩
end Go.Proofs.Ytjlgbihllijpbaa.Be
