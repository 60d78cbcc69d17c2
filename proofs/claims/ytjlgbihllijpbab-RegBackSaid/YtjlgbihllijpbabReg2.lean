/- reg.Put; R11.Right. -/
import Derived.Test.YtjlgbihllijpbabRegM2
import Derived.Test.YtjlgbihllijpbabReg
namespace Go.Proofs.Ytjlgbihllijpbab.Reg
open Go Ev Be Geom
set_option linter.unusedVariables false
set_option linter.unusedSimpArgs false
set_option maxRecDepth 100000
section
variable {a b : Dg} {e iv a0 a1 u0 u1 d m : Int} {t : Bool}
theorem check_t (a : Dg) (h : RR b e iv a0 a1 u0 u1 d m t) : Fnc Try.prog 20 [.agg (regL a b e iv a0 a1 u0 u1 d m t).toArray] [] (Ret (.int .i64 0) []) := by have := check a b e iv a0 a1 u0 u1 d m t; rwa [ck_0 h] at this
theorem check_f (a : Dg) (h : ¬ RR b e iv a0 a1 u0 u1 d m t) : Fnc Try.prog 20 [.agg (regL a b e iv a0 a1 u0 u1 d m t).toArray] [] (Ret (.int .i64 2) []) := by have := check a b e iv a0 a1 u0 u1 d m t; rwa [ck_2 h] at this
theorem put_f (a : Dg) (h : ¬ RR b e iv a0 a1 u0 u1 d m t) : Fnc Try.prog 19 [.agg (regL a b e iv a0 a1 u0 u1 d m t).toArray] [] (Ret (.tuple #[.string { data := #[] }, .int .i64 2]) []) := by
  refine fn_intro Try.func19 (by kernel_rfl) ?_
  repeat' ((conv => whnf); first
      | refine call_val (check_f a h) ?_
      | refine ld1_lit ?_
      | refine ldN_lit ?_
      | refine nw (fun n => ?_)
      | refine st_lit rfl ?_
      | refine need (by first | rfl | omega) ?_
      | (refine wr (fun z hz => ?_); (try rw [Int.tdiv_eq_ediv_of_nonneg (by omega)] at hz); rw [w64 (by omega) (by omega)] at hz; subst hz)
      | (refine zv (fun z hz => ?_); (try rw [Int.tmod_eq_emod_of_nonneg (by omega)] at hz); subst hz)
      | (refine ifs (fun h => ?_) (fun h => ?_) <;> (try (exfalso; first | omega | with_reducible contradiction | with_reducible exact h rfl)))
      | refine fin_nil ⟨?_, rfl⟩)
  all_goals rfl
attribute [local irreducible] rowE rowS padE padS putE putS layL
theorem puts_size (n w : Int) : (putS n w).size ≤ 8 := putS_le
set_option maxHeartbeats 4000000 in
theorem put_t (a : Dg) (h : RR b e iv a0 a1 u0 u1 d m t) : Fnc Try.prog 19 [.agg (regL a b e iv a0 a1 u0 u1 d m t).toArray] [] (Ret (.tuple #[.string (str (layL a b e iv a0 a1 u0 u1 d m t)), .int .i64 0]) []) := by
  have hl : (dl a).length = 32 := by simp [dl]
  have hl' : (dl b).length = 32 := by simp [dl]
  refine fn_intro Try.func19 (by kernel_rfl) ?_
  have hr := row_reg h
  have hp := pad_reg (a := a) h
  cases t
  all_goals simp only [atI, Bool.false_eq_true, if_false, if_true] at hr hp
  all_goals repeat' ((conv => whnf); first
      | refine call_val (check_t a ‹_›) ?_
      | refine call_val (put _ _) ?_
      | (refine call_lit (row 1 [a0, u0, a1, u1, d, m, 0, 103] (Sl.at_ _ 0 8) trivial (by simp)) ?_; rw [hr.1, hr.2])
      | (refine call_lit (row 1 [a0, u0, a1, u1, d, m, 1, 103] (Sl.at_ _ 0 8) trivial (by simp)) ?_; rw [hr.1, hr.2])
      | (refine nv (fun z hz => ?_); subst hz)
      | refine draw_quiet rfl (by kernel_rfl) ?_
      | refine qb2s_at (dl a) rfl rfl rfl rfl rfl ?_
      | refine qb2s_at (dl b) rfl rfl rfl rfl rfl ?_
      | (have p1 := puts_size e 4; have p2 := puts_size iv 8; refine need (by rw [show IntKind.i64.max = 9223372036854775807 from rfl]; simp only [ByteArray.size_append, Ev.str_size, List.length_cons, List.length_nil, hl, hl']; omega) ?_; refine sv (fun z hz => ?_); subst hz)
      | (have p1 := puts_size e 4; have p2 := puts_size iv 8; refine qcall_val (pad _ 96 (by simp only [ByteArray.size_append, Ev.str_size, List.length_cons, List.length_nil, hl, hl']; omega)) ?_; rw [hp.1, hp.2])
      | refine ld1_lit ?_
      | refine ldN_lit ?_
      | refine nw (fun n => ?_)
      | refine st_lit rfl ?_
      | refine need (by first | rfl | omega) ?_
      | (refine wr (fun z hz => ?_); (try rw [Int.tdiv_eq_ediv_of_nonneg (by omega)] at hz); rw [w64 (by omega) (by omega)] at hz; subst hz)
      | (refine zv (fun z hz => ?_); (try rw [Int.tmod_eq_emod_of_nonneg (by omega)] at hz); subst hz)
      | (refine ifs (fun h => ?_) (fun h => ?_) <;> (try (exfalso; first | omega | with_reducible contradiction | with_reducible exact h rfl)))
      | refine fin_nil ⟨?_, rfl⟩)
  all_goals rfl
end
end Go.Proofs.Ytjlgbihllijpbab.Reg
