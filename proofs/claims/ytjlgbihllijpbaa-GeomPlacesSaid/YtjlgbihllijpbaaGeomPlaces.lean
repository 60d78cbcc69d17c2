/- The law GeomPlaces' Go function returns true. -/
import Derived.Test.YtjlgbihllijpbaaGeomLaws
namespace Go.Proofs.Ytjlgbihllijpbaa.Geom
open Go Ev
set_option linter.unusedVariables false
set_option linter.unusedSimpArgs false

set_option maxHeartbeats 4000000 in
theorem geomPlaces (n i : Int) (h0 : -9223372036854775808 ≤ n) (h1 : n ≤ 9223372036854775807) : Fnc Try.prog 8 [.int .i64 n, .int .i64 i] [] (Ret (.bool true) []) := by
  refine fn_intro Try.func8 (by kernel_rfl) ?_
  repeat' ((conv => whnf); first
      | (refine call_ite (areaAt _ _) (fun h => ?_) (fun h => ?_) <;> (try (exfalso; omega)))
      | (refine call_ite (nodeAt _) (fun h => ?_) (fun h => ?_) <;> (try (exfalso; omega)))
      | (refine call_ite (leafAt _) (fun h => ?_) (fun h => ?_) <;> (try (exfalso; omega)))
      | (refine call_ite (place _) (fun h => ?_) (fun h => ?_) <;> (try (exfalso; omega)))
      | (refine call_ite (slotLeaf _ _) (fun h => ?_) (fun h => ?_) <;> (try (exfalso; omega)))
      | refine call_val awake ?_
      | refine fin_nil ⟨ret_bool rfl, rfl⟩
      | refine ld1_lit ?_
      | refine ldN_lit ?_
      | refine nw (fun n => ?_)
      | refine st_lit rfl ?_
      | refine need (by omega) ?_
      | (refine wr (fun z hz => ?_); (try rw [Int.tdiv_eq_ediv_of_nonneg (by omega)] at hz); rw [w64 (by omega) (by omega)] at hz; subst hz)
      | (refine zv (fun z hz => ?_); (try rw [Int.tmod_eq_emod_of_nonneg (by omega)] at hz); subst hz)
      | (refine ifs (fun h => ?_) (fun h => ?_) <;> (try (exfalso; omega)))
      | refine fin_nil ⟨?_, rfl⟩)
end Go.Proofs.Ytjlgbihllijpbaa.Geom
