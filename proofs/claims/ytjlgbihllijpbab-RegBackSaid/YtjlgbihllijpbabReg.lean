/- Package reg: whether a register may be, and its bytes. -/
import Derived.Test.YtjlgbihllijpbabRegM
import Derived.Test.YtjlgbihllijpbabGeomSup
namespace Go.Proofs.Ytjlgbihllijpbab.Reg
open Go Ev Be Geom
set_option linter.unusedVariables false
set_option linter.unusedSimpArgs false
set_option maxRecDepth 100000

theorem within (a hi : Int) : Fnc Try.prog 54 [.int .i64 a, .int .i64 hi] [] (Ret (.bool (decide (0 ≤ a ∧ a ≤ hi))) []) := by
  refine fn_intro Try.func54 (by kernel_rfl) ?_
  repeat' ((conv => whnf); first
      | refine ld1_lit ?_
      | refine ldN_lit ?_
      | refine nw (fun n => ?_)
      | refine st_lit rfl ?_
      | refine need (by first | rfl | omega) ?_
      | (refine wr (fun z hz => ?_); (try rw [Int.tdiv_eq_ediv_of_nonneg (by omega)] at hz); rw [w64 (by omega) (by omega)] at hz; subst hz)
      | (refine zv (fun z hz => ?_); (try rw [Int.tmod_eq_emod_of_nonneg (by omega)] at hz); subst hz)
      | (refine ifs (fun h => ?_) (fun h => ?_) <;> (try (exfalso; first | omega | with_reducible contradiction | with_reducible exact h rfl)))
      | refine fin_nil ⟨?_, rfl⟩)
  all_goals exact fin_bool (by simp; omega)
theorem kDg : kindsOf Try.prog 3 37 = some (List.replicate 32 (.int .u8)) := by kernel_rfl
theorem fDg (a : Dg) : Fits (List.replicate 32 (.int .u8)) (dV a) := by
  repeat' first | exact trivial | (refine ⟨⟨_, rfl⟩, ?_⟩)
theorem fZ : Fits (List.replicate 32 (.int .u8)) zV := by
  repeat' first | exact trivial | (refine ⟨⟨_, rfl⟩, ?_⟩)
open Classical in
/-- What Check answers. -/
noncomputable def ckE (b : Dg) (e iv a0 a1 u0 u1 d m : Int) (t : Bool) : Int := if RR b e iv a0 a1 u0 u1 d m t then 0 else 2
theorem ck_0 {b : Dg} {e iv a0 a1 u0 u1 d m : Int} {t : Bool} (h : RR b e iv a0 a1 u0 u1 d m t) : ckE b e iv a0 a1 u0 u1 d m t = 0 := if_pos h
theorem ck_2 {b : Dg} {e iv a0 a1 u0 u1 d m : Int} {t : Bool} (h : ¬ RR b e iv a0 a1 u0 u1 d m t) : ckE b e iv a0 a1 u0 u1 d m t = 2 := if_neg h
set_option maxHeartbeats 4000000 in
theorem check (a b : Dg) (e iv a0 a1 u0 u1 d m : Int) (t : Bool) : Fnc Try.prog 20 [.agg (regL a b e iv a0 a1 u0 u1 d m t).toArray] [] (Ret (.int .i64 (ckE b e iv a0 a1 u0 u1 d m t)) []) := by
  cases t
  all_goals refine fn_intro Try.func20 (by kernel_rfl) ?_
  all_goals repeat' ((conv => whnf); first
      | refine call_bool (within _ _) (fun h => ?_) (fun h => ?_)
      | refine loop_n 3 ?_
      | refine agg_eql kDg (by decide) rfl rfl rfl rfl (by kernel_rfl) (fDg _) fZ ?_
      | (refine nv (fun z hz => ?_); subst hz)
      | refine ld1_lit ?_
      | refine ldN_lit ?_
      | refine nw (fun n => ?_)
      | refine st_lit rfl ?_
      | refine need (by first | rfl | omega) ?_
      | (refine wr (fun z hz => ?_); (try rw [Int.tdiv_eq_ediv_of_nonneg (by omega)] at hz); rw [w64 (by omega) (by omega)] at hz; subst hz)
      | (refine zv (fun z hz => ?_); (try rw [Int.tmod_eq_emod_of_nonneg (by omega)] at hz); subst hz)
      | (refine ifs (fun h => ?_) (fun h => ?_) <;> (try (exfalso; first | omega | with_reducible contradiction | with_reducible exact h rfl)))
      | refine fin_nil ⟨?_, rfl⟩)
  all_goals first
    | exact ret_int (ck_0 ⟨by omega, by omega, by omega, by omega, by omega, by omega, by omega, by omega, by omega, by omega, by omega, by omega, by omega, by omega, by omega, by omega, fun _ => by omega, fun _ => by omega, fun _ => by omega, fun _ => ‹_›, by omega⟩).symm
    | (refine ret_int (ck_2 fun h => ?_).symm; have h1 := h.e0; have h2 := h.e1; have h3 := h.i0; have h4 := h.i1; have h5 := h.d0; have h6 := h.d1; have h7 := h.m0; have h8 := h.m1; have h9 := h.a00; have h10 := h.a01; have h11 := h.a10; have h12 := h.a11; have h13 := h.u00; have h14 := h.u01; have h15 := h.u10; have h16 := h.u11; have h17 := h.md; omega)
    | (refine ret_int (ck_2 fun h => ?_).symm; have h1 := h.at1 rfl; have h2 := h.at2 rfl; have h3 := h.at3 rfl; omega)
    | (refine ret_int (ck_2 fun h => ?_).symm; have h1 := h.at4 rfl; contradiction)
    | (refine ret_int (ck_0 ?_).symm; refine ⟨?_, ?_, ?_, ?_, ?_, ?_, ?_, ?_, ?_, ?_, ?_, ?_, ?_, ?_, ?_, ?_, ?_, ?_, ?_, ?_, ?_⟩ <;> first | omega | (intro hf; exact absurd hf (by decide)))
    | skip
end Go.Proofs.Ytjlgbihllijpbab.Reg
