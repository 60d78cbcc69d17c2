/- Tables of slots: how many are dirty, and used; bits; bytes. -/
import Derived.Test.YtlmhagngbfcdkaaSlots
namespace Go.Proofs.Ytlmhagngbfcdkaa.Slots
open Go Ev Be
set_option linter.unusedVariables false
set_option linter.unusedSimpArgs false
set_option maxRecDepth 100000
theorem k4 : kindsOf Try.prog 3 36 = some [.bool, .bool, .bool, .bool] := by kernel_rfl
theorem f4 (a b c d : Bool) : Fits [.bool, .bool, .bool, .bool] [.bool a, .bool b, .bool c, .bool d] := ⟨⟨_, rfl⟩, ⟨_, rfl⟩, ⟨_, rfl⟩, ⟨_, rfl⟩, trivial⟩
theorem kSl : kindsOf Try.prog 4 38 = some ([.int .i64] ++ List.replicate 8 .bool ++ [.int .i64]) := by kernel_rfl
theorem fSlZ : Fits ([.int .i64] ++ List.replicate 8 .bool ++ [.int .i64]) slZ := by
  repeat' first | exact trivial | (refine ⟨⟨_, rfl⟩, ?_⟩)
attribute [local irreducible] convert Builtin.copy_ Builtin.append_ Instr.makeSlice
theorem len2 (r : Nat) : Fnc Try.prog 21 [pt r] [tb r tab2] (Ret (.int .i64 1) [tb r tab2]) := by
  refine fn_intro Try.func21 (by kernel_rfl) ?_
  repeat' ((conv => whnf); first
      | refine loop_n 9 ?_
      | (refine nv (fun z hz => ?_); (try simp at hz); replace hz := hz.symm; subst hz)
      | refine ld1_lit ?_
      | refine ldN_lit ?_
      | refine nw (fun n => ?_)
      | refine st_lit rfl ?_
      | refine need (by first | rfl | omega) ?_
      | (refine wr (fun z hz => ?_); (try rw [Int.tdiv_eq_ediv_of_nonneg (by omega)] at hz); rw [w64 (by omega) (by omega)] at hz; subst hz)
      | (refine zv (fun z hz => ?_); (try rw [Int.tmod_eq_emod_of_nonneg (by omega)] at hz); subst hz)
      | (refine ifs (fun h => ?_) (fun h => ?_) <;> (try (exfalso; first | omega | with_reducible contradiction | with_reducible exact h rfl))))
  all_goals (conv => whnf)
  all_goals exact fin_pick (.cons (by repeat (first | exact .here | apply Take.there)) .nil) ⟨rfl, rfl⟩
theorem dirty2 (r : Nat) : Fnc Try.prog 20 [pt r] [tb r tab2] (Ret (.int .i64 1) [tb r tab2]) := by
  refine fn_intro Try.func20 (by kernel_rfl) ?_
  repeat' ((conv => whnf); first
      | refine loop_n 9 ?_
      | (refine nv (fun z hz => ?_); (try simp at hz); replace hz := hz.symm; subst hz)
      | (refine agg_neq k4 (by decide) rfl rfl rfl rfl (by kernel_rfl) (f4 _ _ _ _) (f4 _ _ _ _) ?_; first | refine ift rfl ?_ | refine iff' (by simp) ?_)
      | refine ld1_lit ?_
      | refine ldN_lit ?_
      | refine nw (fun n => ?_)
      | refine st_lit rfl ?_
      | refine need (by first | rfl | omega) ?_
      | (refine wr (fun z hz => ?_); (try rw [Int.tdiv_eq_ediv_of_nonneg (by omega)] at hz); rw [w64 (by omega) (by omega)] at hz; subst hz)
      | (refine zv (fun z hz => ?_); (try rw [Int.tmod_eq_emod_of_nonneg (by omega)] at hz); subst hz)
      | (refine ifs (fun h => ?_) (fun h => ?_) <;> (try (exfalso; first | omega | with_reducible contradiction | with_reducible exact h rfl))))
  all_goals (conv => whnf)
  all_goals exact fin_pick (.cons (by repeat (first | exact .here | apply Take.there)) .nil) ⟨rfl, rfl⟩
theorem bitsF : Fnc Try.prog 34 [.agg slF.toArray] [] (Ret (.int .i64 0) []) := by
  refine fn_intro Try.func34 (by kernel_rfl) ?_
  repeat' ((conv => whnf); first
      | refine loop_n 5 ?_
      | (refine nv (fun z hz => ?_); (try simp at hz); replace hz := hz.symm; subst hz)
      | refine ld1_lit ?_
      | refine ldN_lit ?_
      | refine nw (fun n => ?_)
      | refine st_lit rfl ?_
      | refine need (by first | rfl | omega) ?_
      | (refine wr (fun z hz => ?_); (try rw [Int.tdiv_eq_ediv_of_nonneg (by omega)] at hz); rw [w64 (by omega) (by omega)] at hz; subst hz)
      | (refine zv (fun z hz => ?_); (try rw [Int.tmod_eq_emod_of_nonneg (by omega)] at hz); subst hz)
      | (refine ifs (fun h => ?_) (fun h => ?_) <;> (try (exfalso; first | omega | with_reducible contradiction | with_reducible exact h rfl)))
      | refine fin_nil ⟨?_, rfl⟩)
  all_goals rfl
theorem bitsA : Fnc Try.prog 34 [.agg slA.toArray] [] (Ret (.int .i64 34) []) := by
  refine fn_intro Try.func34 (by kernel_rfl) ?_
  repeat' ((conv => whnf); first
      | refine loop_n 5 ?_
      | (refine wr (fun z hz => ?_); rw [show z = 1 from hz.trans (by decide)])
      | (refine wr (fun z hz => ?_); rw [show z = 2 from hz.trans (by decide)])
      | (refine wr (fun z hz => ?_); rw [show z = 3 from hz.trans (by decide)])
      | (refine wr (fun z hz => ?_); rw [show z = 4 from hz.trans (by decide)])
      | (refine wr (fun z hz => ?_); rw [show z = 32 from hz.trans (by decide)])
      | (refine wr (fun z hz => ?_); rw [show z = 34 from hz.trans (by decide)])
      | (refine nv (fun z hz => ?_); (try simp at hz); replace hz := hz.symm; subst hz)
      | refine ld1_lit ?_
      | refine ldN_lit ?_
      | refine nw (fun n => ?_)
      | refine st_lit rfl ?_
      | refine need (by first | rfl | omega) ?_
      | (refine wr (fun z hz => ?_); (try rw [Int.tdiv_eq_ediv_of_nonneg (by omega)] at hz); rw [w64 (by omega) (by omega)] at hz; subst hz)
      | (refine zv (fun z hz => ?_); (try rw [Int.tmod_eq_emod_of_nonneg (by omega)] at hz); subst hz)
      | (refine ifs (fun h => ?_) (fun h => ?_) <;> (try (exfalso; first | omega | with_reducible contradiction | with_reducible exact h rfl)))
      | refine fin_nil ⟨?_, rfl⟩)
  all_goals rfl
end Go.Proofs.Ytlmhagngbfcdkaa.Slots
