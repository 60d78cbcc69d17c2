/- The laws of layer 9 that only reckon: their Go functions return true. -/
import Derived.Test.YtjlgbihllijpbabGeom
namespace Go.Proofs.Ytjlgbihllijpbab.Geom
open Go Ev
set_option linter.unusedVariables false
set_option maxRecDepth 100000
set_option linter.unusedSimpArgs false

theorem right8 : Right 8 2 100 := by decide
theorem awake : Fnc Try.prog 17 [] [] (Ret (.bool true) []) := by
  have e1 : whatK 81 = 2 := by decide
  have e2 : whatI 81 = 0 := by decide
  refine fn_intro Try.func17 (by kernel_rfl) ?_
  repeat' ((conv => whnf); first
      | (refine call_ite (leafAt _) (fun h => ?_) (fun h => ?_) <;> (try (exfalso; omega)))
      | refine call_val (what _) ?_
      | refine call_if (check _ _ _) (fun h => ?_) (fun h => absurd right8 h)
      | refine fin_nil ⟨ret_bool rfl, rfl⟩
      | refine ld1_lit ?_
      | refine ldN_lit ?_
      | refine nw (fun n => ?_)
      | refine st_lit rfl ?_
      | refine need (by first | rfl | omega) ?_
      | (refine wr (fun z hz => ?_); (try rw [Int.tdiv_eq_ediv_of_nonneg (by omega)] at hz); rw [w64 (by omega) (by omega)] at hz; subst hz)
      | (refine zv (fun z hz => ?_); (try rw [Int.tmod_eq_emod_of_nonneg (by omega)] at hz); subst hz)
      | (refine ifs (fun h => ?_) (fun h => ?_) <;> (try (exfalso; first | omega | with_reducible contradiction | with_reducible exact h rfl)))
      | refine fin_nil ⟨?_, rfl⟩)

theorem right (b s m : Int) : Fnc Try.prog 16 [.agg #[.int .i64 b, .int .i64 s, .int .i64 m]] [] (Ret (.bool (decide (Right b s m))) []) := by
  refine fn_intro Try.func16 (by kernel_rfl) ?_
  repeat' ((conv => whnf); first
      | refine ld1_lit ?_
      | refine ldN_lit ?_
      | refine nw (fun n => ?_)
      | refine st_lit rfl ?_
      | refine need (by first | rfl | omega) ?_
      | (refine wr (fun z hz => ?_); (try rw [Int.tdiv_eq_ediv_of_nonneg (by omega)] at hz); rw [w64 (by omega) (by omega)] at hz; subst hz)
      | (refine zv (fun z hz => ?_); (try rw [Int.tmod_eq_emod_of_nonneg (by omega)] at hz); subst hz)
      | (refine ifs (fun h => ?_) (fun h => ?_) <;> (try (exfalso; first | omega | with_reducible contradiction | with_reducible exact h rfl)))
      | refine fin_nil ⟨?_, rfl⟩)
  all_goals (refine fin_bool ?_; unfold Right; simp; omega)

end Go.Proofs.Ytjlgbihllijpbab.Geom
