/- Tables of slots: a slot's bits. -/
import Derived.Test.YtlmhagngbfcdkaaSl3
namespace Go.Proofs.Ytlmhagngbfcdkaa.Slots
open Go Ev Be
set_option linter.unusedVariables false
set_option linter.unusedSimpArgs false
set_option maxRecDepth 100000
theorem or_v0 : ∀ v0 v1 v2 v3 d0 d1 d2 d3 : Bool, IntKind.i64.wrap ((BitVec.ofInt IntKind.i64.bits (bu v0 v1 v2 v3 d0 d1 d2 d3 0) ||| BitVec.ofInt IntKind.i64.bits 16).toNat : Int) = bu v0 v1 v2 v3 d0 d1 d2 d3 0 + 16 := by decide +kernel
theorem or_dF0 : ∀ v0 v1 v2 v3 d0 d1 d2 d3 : Bool, IntKind.i64.wrap ((BitVec.ofInt IntKind.i64.bits (bu v0 v1 v2 v3 d0 d1 d2 d3 0) ||| BitVec.ofInt IntKind.i64.bits 1).toNat : Int) = bu v0 v1 v2 v3 d0 d1 d2 d3 0 + 1 := by decide +kernel
theorem or_dT0 : ∀ v0 v1 v2 v3 d0 d1 d2 d3 : Bool, IntKind.i64.wrap ((BitVec.ofInt IntKind.i64.bits (bu v0 v1 v2 v3 d0 d1 d2 d3 0 + 16) ||| BitVec.ofInt IntKind.i64.bits 1).toNat : Int) = bu v0 v1 v2 v3 d0 d1 d2 d3 0 + 16 + 1 := by decide +kernel
theorem or_v1 : ∀ v0 v1 v2 v3 d0 d1 d2 d3 : Bool, IntKind.i64.wrap ((BitVec.ofInt IntKind.i64.bits (bu v0 v1 v2 v3 d0 d1 d2 d3 1) ||| BitVec.ofInt IntKind.i64.bits 32).toNat : Int) = bu v0 v1 v2 v3 d0 d1 d2 d3 1 + 32 := by decide +kernel
theorem or_dF1 : ∀ v0 v1 v2 v3 d0 d1 d2 d3 : Bool, IntKind.i64.wrap ((BitVec.ofInt IntKind.i64.bits (bu v0 v1 v2 v3 d0 d1 d2 d3 1) ||| BitVec.ofInt IntKind.i64.bits 2).toNat : Int) = bu v0 v1 v2 v3 d0 d1 d2 d3 1 + 2 := by decide +kernel
theorem or_dT1 : ∀ v0 v1 v2 v3 d0 d1 d2 d3 : Bool, IntKind.i64.wrap ((BitVec.ofInt IntKind.i64.bits (bu v0 v1 v2 v3 d0 d1 d2 d3 1 + 32) ||| BitVec.ofInt IntKind.i64.bits 2).toNat : Int) = bu v0 v1 v2 v3 d0 d1 d2 d3 1 + 32 + 2 := by decide +kernel
theorem or_v2 : ∀ v0 v1 v2 v3 d0 d1 d2 d3 : Bool, IntKind.i64.wrap ((BitVec.ofInt IntKind.i64.bits (bu v0 v1 v2 v3 d0 d1 d2 d3 2) ||| BitVec.ofInt IntKind.i64.bits 64).toNat : Int) = bu v0 v1 v2 v3 d0 d1 d2 d3 2 + 64 := by decide +kernel
theorem or_dF2 : ∀ v0 v1 v2 v3 d0 d1 d2 d3 : Bool, IntKind.i64.wrap ((BitVec.ofInt IntKind.i64.bits (bu v0 v1 v2 v3 d0 d1 d2 d3 2) ||| BitVec.ofInt IntKind.i64.bits 4).toNat : Int) = bu v0 v1 v2 v3 d0 d1 d2 d3 2 + 4 := by decide +kernel
theorem or_dT2 : ∀ v0 v1 v2 v3 d0 d1 d2 d3 : Bool, IntKind.i64.wrap ((BitVec.ofInt IntKind.i64.bits (bu v0 v1 v2 v3 d0 d1 d2 d3 2 + 64) ||| BitVec.ofInt IntKind.i64.bits 4).toNat : Int) = bu v0 v1 v2 v3 d0 d1 d2 d3 2 + 64 + 4 := by decide +kernel
theorem or_v3 : ∀ v0 v1 v2 v3 d0 d1 d2 d3 : Bool, IntKind.i64.wrap ((BitVec.ofInt IntKind.i64.bits (bu v0 v1 v2 v3 d0 d1 d2 d3 3) ||| BitVec.ofInt IntKind.i64.bits 128).toNat : Int) = bu v0 v1 v2 v3 d0 d1 d2 d3 3 + 128 := by decide +kernel
theorem or_dF3 : ∀ v0 v1 v2 v3 d0 d1 d2 d3 : Bool, IntKind.i64.wrap ((BitVec.ofInt IntKind.i64.bits (bu v0 v1 v2 v3 d0 d1 d2 d3 3) ||| BitVec.ofInt IntKind.i64.bits 8).toNat : Int) = bu v0 v1 v2 v3 d0 d1 d2 d3 3 + 8 := by decide +kernel
theorem or_dT3 : ∀ v0 v1 v2 v3 d0 d1 d2 d3 : Bool, IntKind.i64.wrap ((BitVec.ofInt IntKind.i64.bits (bu v0 v1 v2 v3 d0 d1 d2 d3 3 + 128) ||| BitVec.ofInt IntKind.i64.bits 8).toNat : Int) = bu v0 v1 v2 v3 d0 d1 d2 d3 3 + 128 + 8 := by decide +kernel
theorem bu_bd : ∀ (v0 v1 v2 v3 d0 d1 d2 d3 : Bool), ∀ i, i < 5 → 0 ≤ bu v0 v1 v2 v3 d0 d1 d2 d3 i ∧ bu v0 v1 v2 v3 d0 d1 d2 d3 i ≤ 255 := by decide +kernel
attribute [local irreducible] bu convert Builtin.copy_ Builtin.append_ Instr.makeSlice
set_option maxHeartbeats 2000000 in
theorem bits' (g lv : Int) (v0 v1 v2 v3 d0 d1 d2 d3 : Bool) : Fnc Try.prog 34 [.agg #[.int .i64 g, .bool v0, .bool v1, .bool v2, .bool v3, .bool d0, .bool d1, .bool d2, .bool d3, .int .i64 lv]] [] (Ret (.int .i64 (bu v0 v1 v2 v3 d0 d1 d2 d3 4)) []) := by
  have e0 : bu v0 v1 v2 v3 d0 d1 d2 d3 0 = 0 := by revert v0 v1 v2 v3 d0 d1 d2 d3; unfold bu; decide +kernel
  refine fn_intro Try.func34 (by kernel_rfl) ?_
  repeat' ((conv => whnf); first
      | refine ld1_lit ?_
      | refine ldN_lit ?_
      | refine nw (fun n => ?_)
      | refine st_lit rfl ?_
      | refine need (by first | rfl | omega) ?_
      | (refine wr (fun z hz => ?_); (try rw [Int.tdiv_eq_ediv_of_nonneg (by omega)] at hz); rw [w64 (by omega) (by omega)] at hz; subst hz)
      | (refine zv (fun z hz => ?_); (try rw [Int.tmod_eq_emod_of_nonneg (by omega)] at hz); subst hz)
      | (refine ifs (fun h => ?_) (fun h => ?_) <;> (try (exfalso; first | omega | with_reducible contradiction | with_reducible exact h rfl))))
  refine loop_rule [5, 3] (fun vs M m => ∃ i : Nat, vs = [.int .i64 i, .int .i64 (bu v0 v1 v2 v3 d0 d1 d2 d3 i)] ∧ i ≤ 4 ∧ m = 4 - i ∧ M = [⟨n, .cells [.int .i64 g, .bool v0, .bool v1, .bool v2, .bool v3, .bool d0, .bool d1, .bool d2, .bool d3, .int .i64 lv] 38⟩]) rfl ?_ ?_
  · exact fin_all ⟨_, 0, by rw [e0]; rfl, by omega, rfl, rfl⟩
  rintro vs junk M' m ⟨i, rfl, hi, rfl, rfl⟩
  have hcase : i = 0 ∨ i = 1 ∨ i = 2 ∨ i = 3 ∨ i = 4 := by omega
  rcases hcase with rfl | rfl | rfl | rfl | rfl
  · cases v0 <;> cases d0
    all_goals repeat' ((conv => whnf); first
        | (refine nv (fun z hz => ?_); (try simp at hz); replace hz := hz.symm; subst hz)
        | (refine wr (fun z hz => ?_); rw [show z = 16 from by rw [hz]; with_reducible decide])
        | (refine wr (fun z hz => ?_); rw [show z = 1 from by rw [hz]; with_reducible decide])
        | (refine wr (fun z hz => ?_); rw [show z = 1 from by rw [hz]; with_reducible decide])
        | (refine wr (fun z hz => ?_); rw [or_v0] at hz; subst hz)
        | (refine wr (fun z hz => ?_); rw [or_dT0] at hz; subst hz)
        | (refine wr (fun z hz => ?_); rw [or_dF0] at hz; subst hz)
        | refine ld1_lit ?_
        | refine ldN_lit ?_
        | refine nw (fun n => ?_)
        | refine st_lit rfl ?_
        | refine need (by first | rfl | omega) ?_
        | (refine wr (fun z hz => ?_); (try rw [Int.tdiv_eq_ediv_of_nonneg (by omega)] at hz); rw [w64 (by omega) (by omega)] at hz; subst hz)
        | (refine zv (fun z hz => ?_); (try rw [Int.tmod_eq_emod_of_nonneg (by omega)] at hz); subst hz)
        | (refine ifs (fun h => ?_) (fun h => ?_) <;> (try (exfalso; first | omega | with_reducible contradiction | with_reducible exact h rfl))))
    all_goals (conv => whnf)
    all_goals refine ⟨rfl, fin_all ⟨4 - 1, by omega, 1, ?_, by omega, rfl, rfl⟩⟩
    all_goals (congr 2; congr 1)
    all_goals (clear e0; revert v1 v2 v3 d1 d2 d3; unfold bu; decide +kernel)
  · cases v1 <;> cases d1
    all_goals repeat' ((conv => whnf); first
        | (refine nv (fun z hz => ?_); (try simp at hz); replace hz := hz.symm; subst hz)
        | (refine wr (fun z hz => ?_); rw [show z = 32 from by rw [hz]; with_reducible decide])
        | (refine wr (fun z hz => ?_); rw [show z = 2 from by rw [hz]; with_reducible decide])
        | (refine wr (fun z hz => ?_); rw [show z = 2 from by rw [hz]; with_reducible decide])
        | (refine wr (fun z hz => ?_); rw [or_v1] at hz; subst hz)
        | (refine wr (fun z hz => ?_); rw [or_dT1] at hz; subst hz)
        | (refine wr (fun z hz => ?_); rw [or_dF1] at hz; subst hz)
        | refine ld1_lit ?_
        | refine ldN_lit ?_
        | refine nw (fun n => ?_)
        | refine st_lit rfl ?_
        | refine need (by first | rfl | omega) ?_
        | (refine wr (fun z hz => ?_); (try rw [Int.tdiv_eq_ediv_of_nonneg (by omega)] at hz); rw [w64 (by omega) (by omega)] at hz; subst hz)
        | (refine zv (fun z hz => ?_); (try rw [Int.tmod_eq_emod_of_nonneg (by omega)] at hz); subst hz)
        | (refine ifs (fun h => ?_) (fun h => ?_) <;> (try (exfalso; first | omega | with_reducible contradiction | with_reducible exact h rfl))))
    all_goals (conv => whnf)
    all_goals refine ⟨rfl, fin_all ⟨4 - 2, by omega, 2, ?_, by omega, rfl, rfl⟩⟩
    all_goals (congr 2; congr 1)
    all_goals (clear e0; revert v0 v2 v3 d0 d2 d3; unfold bu; decide +kernel)
  · cases v2 <;> cases d2
    all_goals repeat' ((conv => whnf); first
        | (refine nv (fun z hz => ?_); (try simp at hz); replace hz := hz.symm; subst hz)
        | (refine wr (fun z hz => ?_); rw [show z = 64 from by rw [hz]; with_reducible decide])
        | (refine wr (fun z hz => ?_); rw [show z = 4 from by rw [hz]; with_reducible decide])
        | (refine wr (fun z hz => ?_); rw [show z = 3 from by rw [hz]; with_reducible decide])
        | (refine wr (fun z hz => ?_); rw [or_v2] at hz; subst hz)
        | (refine wr (fun z hz => ?_); rw [or_dT2] at hz; subst hz)
        | (refine wr (fun z hz => ?_); rw [or_dF2] at hz; subst hz)
        | refine ld1_lit ?_
        | refine ldN_lit ?_
        | refine nw (fun n => ?_)
        | refine st_lit rfl ?_
        | refine need (by first | rfl | omega) ?_
        | (refine wr (fun z hz => ?_); (try rw [Int.tdiv_eq_ediv_of_nonneg (by omega)] at hz); rw [w64 (by omega) (by omega)] at hz; subst hz)
        | (refine zv (fun z hz => ?_); (try rw [Int.tmod_eq_emod_of_nonneg (by omega)] at hz); subst hz)
        | (refine ifs (fun h => ?_) (fun h => ?_) <;> (try (exfalso; first | omega | with_reducible contradiction | with_reducible exact h rfl))))
    all_goals (conv => whnf)
    all_goals refine ⟨rfl, fin_all ⟨4 - 3, by omega, 3, ?_, by omega, rfl, rfl⟩⟩
    all_goals (congr 2; congr 1)
    all_goals (clear e0; revert v0 v1 v3 d0 d1 d3; unfold bu; decide +kernel)
  · cases v3 <;> cases d3
    all_goals repeat' ((conv => whnf); first
        | (refine nv (fun z hz => ?_); (try simp at hz); replace hz := hz.symm; subst hz)
        | (refine wr (fun z hz => ?_); rw [show z = 128 from by rw [hz]; with_reducible decide])
        | (refine wr (fun z hz => ?_); rw [show z = 8 from by rw [hz]; with_reducible decide])
        | (refine wr (fun z hz => ?_); rw [show z = 4 from by rw [hz]; with_reducible decide])
        | (refine wr (fun z hz => ?_); rw [or_v3] at hz; subst hz)
        | (refine wr (fun z hz => ?_); rw [or_dT3] at hz; subst hz)
        | (refine wr (fun z hz => ?_); rw [or_dF3] at hz; subst hz)
        | refine ld1_lit ?_
        | refine ldN_lit ?_
        | refine nw (fun n => ?_)
        | refine st_lit rfl ?_
        | refine need (by first | rfl | omega) ?_
        | (refine wr (fun z hz => ?_); (try rw [Int.tdiv_eq_ediv_of_nonneg (by omega)] at hz); rw [w64 (by omega) (by omega)] at hz; subst hz)
        | (refine zv (fun z hz => ?_); (try rw [Int.tmod_eq_emod_of_nonneg (by omega)] at hz); subst hz)
        | (refine ifs (fun h => ?_) (fun h => ?_) <;> (try (exfalso; first | omega | with_reducible contradiction | with_reducible exact h rfl))))
    all_goals (conv => whnf)
    all_goals refine ⟨rfl, fin_all ⟨4 - 4, by omega, 4, ?_, by omega, rfl, rfl⟩⟩
    all_goals (congr 2; congr 1)
    all_goals (clear e0; revert v0 v1 v2 d0 d1 d2; unfold bu; decide +kernel)
  · repeat' ((conv => whnf); first
      | exact fin_nil ⟨ret_int rfl, rfl⟩
      | refine ld1_lit ?_
      | refine ldN_lit ?_
      | refine nw (fun n => ?_)
      | refine st_lit rfl ?_
      | refine need (by first | rfl | omega) ?_
      | (refine wr (fun z hz => ?_); (try rw [Int.tdiv_eq_ediv_of_nonneg (by omega)] at hz); rw [w64 (by omega) (by omega)] at hz; subst hz)
      | (refine zv (fun z hz => ?_); (try rw [Int.tmod_eq_emod_of_nonneg (by omega)] at hz); subst hz)
      | (refine ifs (fun h => ?_) (fun h => ?_) <;> (try (exfalso; first | omega | with_reducible contradiction | with_reducible exact h rfl)))
      | refine fin_nil ⟨?_, rfl⟩)
end Go.Proofs.Ytlmhagngbfcdkaa.Slots
