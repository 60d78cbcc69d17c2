/- The laws of layer 9 that only reckon: their Go functions return true. -/
import Derived.Test.YtjlgbihllijpbaaGeom
namespace Go.Proofs.Ytjlgbihllijpbaa.Geom
open Go Ev
set_option linter.unusedVariables false
set_option linter.unusedSimpArgs false

theorem right8 : Right 8 2 100 := by decide
theorem awake : Fnc Try.prog 15 [] [] (Ret (.bool true) []) := by
  have e1 : whatK 81 = 2 := by decide
  have e2 : whatI 81 = 0 := by decide
  refine fn_intro Try.func15 (by kernel_rfl) ?_
  repeat' ((conv => whnf); first
      | (refine call_ite (leafAt _) (fun h => ?_) (fun h => ?_) <;> (try (exfalso; omega)))
      | refine call_val (what _) ?_
      | refine call_if (check _ _ _) (fun h => ?_) (fun h => absurd right8 h)
      | refine fin_nil ⟨ret_bool rfl, rfl⟩
      | refine ld1_lit ?_
      | refine ldN_lit ?_
      | refine nw (fun n => ?_)
      | refine st_lit rfl ?_
      | refine need (by omega) ?_
      | (refine wr (fun z hz => ?_); (try rw [Int.tdiv_eq_ediv_of_nonneg (by omega)] at hz); rw [w64 (by omega) (by omega)] at hz; subst hz)
      | (refine zv (fun z hz => ?_); (try rw [Int.tmod_eq_emod_of_nonneg (by omega)] at hz); subst hz)
      | (refine ifs (fun h => ?_) (fun h => ?_) <;> (try (exfalso; omega)))
      | refine fin_nil ⟨?_, rfl⟩)

theorem right (b s m : Int) : Fnc Try.prog 14 [.agg #[.int .i64 b, .int .i64 s, .int .i64 m]] [] (Ret (.bool (decide (Right b s m))) []) := by
  refine fn_intro Try.func14 (by kernel_rfl) ?_
  repeat' ((conv => whnf); first
      | refine ld1_lit ?_
      | refine ldN_lit ?_
      | refine nw (fun n => ?_)
      | refine st_lit rfl ?_
      | refine need (by omega) ?_
      | (refine wr (fun z hz => ?_); (try rw [Int.tdiv_eq_ediv_of_nonneg (by omega)] at hz); rw [w64 (by omega) (by omega)] at hz; subst hz)
      | (refine zv (fun z hz => ?_); (try rw [Int.tmod_eq_emod_of_nonneg (by omega)] at hz); subst hz)
      | (refine ifs (fun h => ?_) (fun h => ?_) <;> (try (exfalso; omega)))
      | refine fin_nil ⟨?_, rfl⟩)
  all_goals (refine fin_bool ?_; unfold Right; simp; omega)

theorem geomSpans (b s m at_ n : Int) (h0 : -9223372036854775808 ≤ n) (h1 : n ≤ 9223372036854775807) :
    Fnc Try.prog 3 [.agg #[.int .i64 b, .int .i64 s, .int .i64 m], .int .i64 at_, .int .i64 n] [] (Ret (.bool true) []) := by
  refine fn_intro Try.func3 (by kernel_rfl) ?_
  repeat' ((conv => whnf); first
      | refine call_val (span _ _ _ _ _ h0 h1) ?_
      | (refine call_bool (right _ _ _) (fun h => ?_) (fun h => ?_) <;> unfold Right at h)
      | refine call_val awake ?_
      | refine fin_nil ⟨ret_bool rfl, rfl⟩
      | refine ld1_lit ?_
      | refine ldN_lit ?_
      | refine nw (fun n => ?_)
      | refine st_lit rfl ?_
      | refine need (by omega) ?_
      | (refine wr (fun z hz => ?_); (try rw [Int.tdiv_eq_ediv_of_nonneg (by omega)] at hz); rw [w64 (by omega) (by omega)] at hz; subst hz)
      | (refine zv (fun z hz => ?_); (try rw [Int.tmod_eq_emod_of_nonneg (by omega)] at hz); subst hz)
      | (refine ifs (fun h => ?_) (fun h => ?_) <;> (try (exfalso; omega)))
      | refine fin_nil ⟨?_, rfl⟩)
  all_goals (exfalso; unfold Right at *; omega)

theorem geomWhat (b : Int) : Fnc Try.prog 4 [.int .i64 b] [] (Ret (.bool true) []) := by
  refine fn_intro Try.func4 (by kernel_rfl) ?_
  repeat' ((conv => whnf); first
      | refine call_val (what _) ?_
      | (refine call_ite (areaAt _ _) (fun h => ?_) (fun h => ?_) <;> (try (exfalso; omega)))
      | (refine call_ite (nodeAt _) (fun h => ?_) (fun h => ?_) <;> (try (exfalso; omega)))
      | (refine call_ite (leafAt _) (fun h => ?_) (fun h => ?_) <;> (try (exfalso; omega)))
      | refine call_val awake ?_
      | (refine ifs (fun h => ?_) (fun h => ?_) <;> unfold whatK whatI at * <;> (try (exfalso; omega)))
      | refine fin_nil ⟨ret_bool rfl, rfl⟩
      | refine ld1_lit ?_
      | refine ldN_lit ?_
      | refine nw (fun n => ?_)
      | refine st_lit rfl ?_
      | refine need (by omega) ?_
      | (refine wr (fun z hz => ?_); (try rw [Int.tdiv_eq_ediv_of_nonneg (by omega)] at hz); rw [w64 (by omega) (by omega)] at hz; subst hz)
      | (refine zv (fun z hz => ?_); (try rw [Int.tmod_eq_emod_of_nonneg (by omega)] at hz); subst hz)
      | (refine ifs (fun h => ?_) (fun h => ?_) <;> (try (exfalso; omega)))
      | refine fin_nil ⟨?_, rfl⟩)
  all_goals (exfalso; unfold whatK whatI at *; omega)

end Go.Proofs.Ytjlgbihllijpbaa.Geom
