/- The contracts of package geom's plain functions, each over all its arguments. -/
import Derived.Test.YtjlgbihllijpbaaProg
import Derived.Test.YtjlgbihllijpbaaEz
import Derived.KernelRfl
namespace Go.Proofs.Ytjlgbihllijpbaa.Geom
open Go Ev
set_option linter.unusedVariables false
set_option linter.unusedSimpArgs false

theorem within (a lo hi : Int) : Fnc Try.prog 40 [.int .i64 a, .int .i64 lo, .int .i64 hi] [] (Ret (.bool (decide (lo ≤ a ∧ a ≤ hi))) []) := by
  refine fn_intro Try.func40 (by kernel_rfl) ?_
  repeat' ((conv => whnf); first
      | refine ld1_lit ?_
      | refine ldN_lit ?_
      | refine nw (fun n => ?_)
      | refine st_lit rfl ?_
      | refine need (by omega) ?_
      | (refine wr (fun z hz => ?_); (try rw [Int.tdiv_eq_ediv_of_nonneg (by omega)] at hz); rw [w64 (by omega) (by omega)] at hz; subst hz)
      | (refine zv (fun z hz => ?_); (try rw [Int.tmod_eq_emod_of_nonneg (by omega)] at hz); subst hz)
      | (refine ifs (fun h => ?_) (fun h => ?_) <;> (try (exfalso; omega)))
      | refine fin_nil ⟨?_, rfl⟩)
  all_goals exact fin_bool (by simp; omega)

/-- May a geometry be? -/
def Right (b s m : Int) : Prop := 4 ≤ b ∧ b ≤ 64 ∧ b % 4 = 0 ∧ 1 ≤ s ∧ s ≤ 8 ∧ 1 ≤ m ∧ m ≤ 1099511627776
instance (b s m : Int) : Decidable (Right b s m) := by unfold Right; infer_instance

theorem check (b s m : Int) : Fnc Try.prog 37 [.agg #[.int .i64 b, .int .i64 s, .int .i64 m]] [] (Ret (.int .i64 (if Right b s m then 0 else 2)) []) := by
  refine fn_intro Try.func37 (by kernel_rfl) ?_
  repeat' ((conv => whnf); first
      | refine call_bool (within _ _ _) (fun h => ?_) (fun h => ?_)
      | refine ld1_lit ?_
      | refine ldN_lit ?_
      | refine nw (fun n => ?_)
      | refine st_lit rfl ?_
      | refine need (by omega) ?_
      | (refine wr (fun z hz => ?_); (try rw [Int.tdiv_eq_ediv_of_nonneg (by omega)] at hz); rw [w64 (by omega) (by omega)] at hz; subst hz)
      | (refine zv (fun z hz => ?_); (try rw [Int.tmod_eq_emod_of_nonneg (by omega)] at hz); subst hz)
      | (refine ifs (fun h => ?_) (fun h => ?_) <;> (try (exfalso; omega)))
      | refine fin_nil ⟨?_, rfl⟩)
  all_goals (refine fin_int ?_; unfold Right; omega)

theorem span (b s m at_ n : Int) (h0 : -9223372036854775808 ≤ n) (h1 : n ≤ 9223372036854775807) : Fnc Try.prog 13 [.agg #[.int .i64 b, .int .i64 s, .int .i64 m], .int .i64 at_, .int .i64 n] []
    (Ret (.int .i64 (if ¬ Right b s m ∨ n < 1 ∨ 8 < n then 2 else if at_ < 0 ∨ b - n < at_ then 3 else 0)) []) := by
  refine fn_intro Try.func13 (by kernel_rfl) ?_
  repeat' ((conv => whnf); first
      | (refine call_if (check _ _ _) (fun h => ?_) (fun h => ?_) <;> unfold Right at h)
      | refine ld1_lit ?_
      | refine ldN_lit ?_
      | refine nw (fun n => ?_)
      | refine st_lit rfl ?_
      | refine need (by omega) ?_
      | (refine wr (fun z hz => ?_); (try rw [Int.tdiv_eq_ediv_of_nonneg (by omega)] at hz); rw [w64 (by omega) (by omega)] at hz; subst hz)
      | (refine zv (fun z hz => ?_); (try rw [Int.tmod_eq_emod_of_nonneg (by omega)] at hz); subst hz)
      | (refine ifs (fun h => ?_) (fun h => ?_) <;> (try (exfalso; omega)))
      | refine fin_nil ⟨?_, rfl⟩)
  all_goals (refine ret_int ?_; unfold Right; omega)

theorem areaAt (a i : Int) : Fnc Try.prog 17 [.int .i64 a, .int .i64 i] []
    (Ret (if 0 ≤ a ∧ a ≤ 1 ∧ 0 ≤ i ∧ i < 80 then .tuple #[.int .i64 (1 + 80 * a + i), .int .i64 0] else .tuple #[.int .i64 0, .int .i64 3]) []) := by
  refine fn_intro Try.func17 (by kernel_rfl) ?_
  repeat' ((conv => whnf); first
      | refine ld1_lit ?_
      | refine ldN_lit ?_
      | refine nw (fun n => ?_)
      | refine st_lit rfl ?_
      | refine need (by omega) ?_
      | (refine wr (fun z hz => ?_); (try rw [Int.tdiv_eq_ediv_of_nonneg (by omega)] at hz); rw [w64 (by omega) (by omega)] at hz; subst hz)
      | (refine zv (fun z hz => ?_); (try rw [Int.tmod_eq_emod_of_nonneg (by omega)] at hz); subst hz)
      | (refine ifs (fun h => ?_) (fun h => ?_) <;> (try (exfalso; omega)))
      | refine fin_nil ⟨?_, rfl⟩)
  all_goals first | exact fin_t (by omega) rfl | exact fin_f (by omega) rfl
theorem nodeAt (n : Int) : Fnc Try.prog 18 [.int .i64 n] []
    (Ret (if 0 ≤ n ∧ n < 63 then .tuple #[.int .i64 (161 + n), .int .i64 0] else .tuple #[.int .i64 0, .int .i64 3]) []) := by
  refine fn_intro Try.func18 (by kernel_rfl) ?_
  repeat' ((conv => whnf); first
      | refine ld1_lit ?_
      | refine ldN_lit ?_
      | refine nw (fun n => ?_)
      | refine st_lit rfl ?_
      | refine need (by omega) ?_
      | (refine wr (fun z hz => ?_); (try rw [Int.tdiv_eq_ediv_of_nonneg (by omega)] at hz); rw [w64 (by omega) (by omega)] at hz; subst hz)
      | (refine zv (fun z hz => ?_); (try rw [Int.tmod_eq_emod_of_nonneg (by omega)] at hz); subst hz)
      | (refine ifs (fun h => ?_) (fun h => ?_) <;> (try (exfalso; omega)))
      | refine fin_nil ⟨?_, rfl⟩)
  all_goals first | exact fin_t (by omega) rfl | exact fin_f (by omega) rfl
theorem leafAt (n : Int) : Fnc Try.prog 19 [.int .i64 n] []
    (Ret (if 0 ≤ n ∧ n < 64 then .tuple #[.int .i64 (224 + n), .int .i64 0] else .tuple #[.int .i64 0, .int .i64 3]) []) := by
  refine fn_intro Try.func19 (by kernel_rfl) ?_
  repeat' ((conv => whnf); first
      | refine ld1_lit ?_
      | refine ldN_lit ?_
      | refine nw (fun n => ?_)
      | refine st_lit rfl ?_
      | refine need (by omega) ?_
      | (refine wr (fun z hz => ?_); (try rw [Int.tdiv_eq_ediv_of_nonneg (by omega)] at hz); rw [w64 (by omega) (by omega)] at hz; subst hz)
      | (refine zv (fun z hz => ?_); (try rw [Int.tmod_eq_emod_of_nonneg (by omega)] at hz); subst hz)
      | (refine ifs (fun h => ?_) (fun h => ?_) <;> (try (exfalso; omega)))
      | refine fin_nil ⟨?_, rfl⟩)
  all_goals first | exact fin_t (by omega) rfl | exact fin_f (by omega) rfl
/-- What a block is, which one, and whether it is one. -/
def whatK (b : Int) : Int := if 0 ≤ b ∧ b < 288 then (if b < 1 then 0 else if b < 161 then 1 + (b - 1) / 80 else if b < 224 then 3 else 4) else 0
def whatI (b : Int) : Int := if 0 ≤ b ∧ b < 288 then (if b < 1 then 0 else if b < 161 then (b - 1) % 80 else if b < 224 then b - 161 else b - 224) else 0
theorem what (b : Int) : Fnc Try.prog 16 [.int .i64 b] []
    (Ret (.tuple #[.int .i64 (whatK b), .int .i64 (whatI b), .int .i64 (if 0 ≤ b ∧ b < 288 then 0 else 3)]) []) := by
  refine fn_intro Try.func16 (by kernel_rfl) ?_
  repeat' ((conv => whnf); first
      | refine ld1_lit ?_
      | refine ldN_lit ?_
      | refine nw (fun n => ?_)
      | refine st_lit rfl ?_
      | refine need (by omega) ?_
      | (refine wr (fun z hz => ?_); (try rw [Int.tdiv_eq_ediv_of_nonneg (by omega)] at hz); rw [w64 (by omega) (by omega)] at hz; subst hz)
      | (refine zv (fun z hz => ?_); (try rw [Int.tmod_eq_emod_of_nonneg (by omega)] at hz); subst hz)
      | (refine ifs (fun h => ?_) (fun h => ?_) <;> (try (exfalso; omega)))
      | refine fin_nil ⟨?_, rfl⟩)
  all_goals exact ret_tup3 (ret1_int (by unfold whatK; omega)) (ret1_int (by unfold whatI; omega)) (ret1_int (by omega))
theorem place (b : Int) : Fnc Try.prog 27 [.int .i64 b] []
    (Ret (if 0 ≤ b ∧ b < 64 then .tuple #[.int .i64 (b / 4), .int .i64 (b % 4), .int .i64 0] else .tuple #[.int .i64 0, .int .i64 0, .int .i64 3]) []) := by
  refine fn_intro Try.func27 (by kernel_rfl) ?_
  repeat' ((conv => whnf); first
      | refine ld1_lit ?_
      | refine ldN_lit ?_
      | refine nw (fun n => ?_)
      | refine st_lit rfl ?_
      | refine need (by omega) ?_
      | (refine wr (fun z hz => ?_); (try rw [Int.tdiv_eq_ediv_of_nonneg (by omega)] at hz); rw [w64 (by omega) (by omega)] at hz; subst hz)
      | (refine zv (fun z hz => ?_); (try rw [Int.tmod_eq_emod_of_nonneg (by omega)] at hz); subst hz)
      | (refine ifs (fun h => ?_) (fun h => ?_) <;> (try (exfalso; omega)))
      | refine fin_nil ⟨?_, rfl⟩)
  all_goals first | exact fin_t (by omega) rfl | exact fin_f (by omega) rfl
theorem slotLeaf (s i : Int) : Fnc Try.prog 28 [.int .i64 s, .int .i64 i] []
    (Ret (if 0 ≤ s ∧ s < 8 ∧ 0 ≤ i ∧ i < 4 then .tuple #[.int .i64 (4 * s + i), .int .i64 0] else .tuple #[.int .i64 0, .int .i64 3]) []) := by
  refine fn_intro Try.func28 (by kernel_rfl) ?_
  repeat' ((conv => whnf); first
      | refine ld1_lit ?_
      | refine ldN_lit ?_
      | refine nw (fun n => ?_)
      | refine st_lit rfl ?_
      | refine need (by omega) ?_
      | (refine wr (fun z hz => ?_); (try rw [Int.tdiv_eq_ediv_of_nonneg (by omega)] at hz); rw [w64 (by omega) (by omega)] at hz; subst hz)
      | (refine zv (fun z hz => ?_); (try rw [Int.tmod_eq_emod_of_nonneg (by omega)] at hz); subst hz)
      | (refine ifs (fun h => ?_) (fun h => ?_) <;> (try (exfalso; omega)))
      | refine fin_nil ⟨?_, rfl⟩)
  all_goals first | exact fin_t (by omega) rfl | exact fin_f (by omega) rfl
end Go.Proofs.Ytjlgbihllijpbaa.Geom
