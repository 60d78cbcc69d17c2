/- The contracts of package geom's plain functions, each over all its arguments. -/
import Derived.Test.YtjlgbihllijpbabProg
import Derived.Test.YtjlgbihllijpbabEz
import Derived.KernelRfl
namespace Go.Proofs.Ytjlgbihllijpbab.Geom
open Go Ev
set_option linter.unusedVariables false
set_option maxRecDepth 100000
set_option linter.unusedSimpArgs false

theorem within (a lo hi : Int) : Fnc Try.prog 50 [.int .i64 a, .int .i64 lo, .int .i64 hi] [] (Ret (.bool (decide (lo ≤ a ∧ a ≤ hi))) []) := by
  refine fn_intro Try.func50 (by kernel_rfl) ?_
  repeat' ((conv => whnf); first
      | refine ld1_lit ?_
      | refine ldN_lit ?_
      | refine nw (fun n => ?_)
      | refine st_lit rfl ?_
      | refine need (by first | rfl | omega) ?_
      | (refine wr (fun z hz => ?_); (try rw [Int.tdiv_eq_ediv_of_nonneg (by omega)] at hz); rw [w64 (by omega) (by omega)] at hz; subst hz)
      | (refine zv (fun z hz => ?_); (try rw [Int.tmod_eq_emod_of_nonneg (by omega)] at hz); subst hz)
      | (refine ifs (fun h => ?_) (fun h => ?_) <;> (try (exfalso; first | omega | with_reducible contradiction | with_reducible exact h rfl)))
      | refine fin_nil ⟨?_, rfl⟩)
  all_goals exact fin_bool (by simp; omega)

/-- May a geometry be? -/
def Right (b s m : Int) : Prop := 4 ≤ b ∧ b ≤ 64 ∧ b % 4 = 0 ∧ 1 ≤ s ∧ s ≤ 8 ∧ 1 ≤ m ∧ m ≤ 1099511627776
instance (b s m : Int) : Decidable (Right b s m) := by unfold Right; infer_instance

theorem check (b s m : Int) : Fnc Try.prog 15 [.agg #[.int .i64 b, .int .i64 s, .int .i64 m]] [] (Ret (.int .i64 (if Right b s m then 0 else 2)) []) := by
  refine fn_intro Try.func15 (by kernel_rfl) ?_
  repeat' ((conv => whnf); first
      | refine call_bool (within _ _ _) (fun h => ?_) (fun h => ?_)
      | refine ld1_lit ?_
      | refine ldN_lit ?_
      | refine nw (fun n => ?_)
      | refine st_lit rfl ?_
      | refine need (by first | rfl | omega) ?_
      | (refine wr (fun z hz => ?_); (try rw [Int.tdiv_eq_ediv_of_nonneg (by omega)] at hz); rw [w64 (by omega) (by omega)] at hz; subst hz)
      | (refine zv (fun z hz => ?_); (try rw [Int.tmod_eq_emod_of_nonneg (by omega)] at hz); subst hz)
      | (refine ifs (fun h => ?_) (fun h => ?_) <;> (try (exfalso; first | omega | with_reducible contradiction | with_reducible exact h rfl)))
      | refine fin_nil ⟨?_, rfl⟩)
  all_goals (refine fin_int ?_; unfold Right; omega)

theorem leafAt (n : Int) : Fnc Try.prog 51 [.int .i64 n] []
    (Ret (if 0 ≤ n ∧ n < 64 then .tuple #[.int .i64 (224 + n), .int .i64 0] else .tuple #[.int .i64 0, .int .i64 3]) []) := by
  refine fn_intro Try.func51 (by kernel_rfl) ?_
  repeat' ((conv => whnf); first
      | refine ld1_lit ?_
      | refine ldN_lit ?_
      | refine nw (fun n => ?_)
      | refine st_lit rfl ?_
      | refine need (by first | rfl | omega) ?_
      | (refine wr (fun z hz => ?_); (try rw [Int.tdiv_eq_ediv_of_nonneg (by omega)] at hz); rw [w64 (by omega) (by omega)] at hz; subst hz)
      | (refine zv (fun z hz => ?_); (try rw [Int.tmod_eq_emod_of_nonneg (by omega)] at hz); subst hz)
      | (refine ifs (fun h => ?_) (fun h => ?_) <;> (try (exfalso; first | omega | with_reducible contradiction | with_reducible exact h rfl)))
      | refine fin_nil ⟨?_, rfl⟩)
  all_goals first | exact fin_t (by omega) rfl | exact fin_f (by omega) rfl
/-- What a block is, which one, and whether it is one. -/
def whatK (b : Int) : Int := if 0 ≤ b ∧ b < 288 then (if b < 1 then 0 else if b < 161 then 1 + (b - 1) / 80 else if b < 224 then 3 else 4) else 0
def whatI (b : Int) : Int := if 0 ≤ b ∧ b < 288 then (if b < 1 then 0 else if b < 161 then (b - 1) % 80 else if b < 224 then b - 161 else b - 224) else 0
theorem what (b : Int) : Fnc Try.prog 52 [.int .i64 b] []
    (Ret (.tuple #[.int .i64 (whatK b), .int .i64 (whatI b), .int .i64 (if 0 ≤ b ∧ b < 288 then 0 else 3)]) []) := by
  refine fn_intro Try.func52 (by kernel_rfl) ?_
  repeat' ((conv => whnf); first
      | refine ld1_lit ?_
      | refine ldN_lit ?_
      | refine nw (fun n => ?_)
      | refine st_lit rfl ?_
      | refine need (by first | rfl | omega) ?_
      | (refine wr (fun z hz => ?_); (try rw [Int.tdiv_eq_ediv_of_nonneg (by omega)] at hz); rw [w64 (by omega) (by omega)] at hz; subst hz)
      | (refine zv (fun z hz => ?_); (try rw [Int.tmod_eq_emod_of_nonneg (by omega)] at hz); subst hz)
      | (refine ifs (fun h => ?_) (fun h => ?_) <;> (try (exfalso; first | omega | with_reducible contradiction | with_reducible exact h rfl)))
      | refine fin_nil ⟨?_, rfl⟩)
  all_goals exact ret_tup3 (ret1_int (by unfold whatK; omega)) (ret1_int (by unfold whatI; omega)) (ret1_int (by omega))
end Go.Proofs.Ytjlgbihllijpbab.Geom
