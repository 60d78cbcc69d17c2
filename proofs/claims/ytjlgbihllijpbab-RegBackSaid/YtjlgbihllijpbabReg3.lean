/- R11.Right. -/
import Derived.Test.YtjlgbihllijpbabReg2
namespace Go.Proofs.Ytjlgbihllijpbab.Reg
open Go Ev Be Geom
set_option linter.unusedVariables false
set_option linter.unusedSimpArgs false
set_option maxRecDepth 100000
open Classical in
noncomputable def rrB (b : Dg) (e iv a0 a1 u0 u1 d m : Int) (t : Bool) : Bool := if RR b e iv a0 a1 u0 u1 d m t then true else false
theorem rr_t {b : Dg} {e iv a0 a1 u0 u1 d m : Int} {t : Bool} (h : RR b e iv a0 a1 u0 u1 d m t) : rrB b e iv a0 a1 u0 u1 d m t = true := if_pos h
theorem rr_f {b : Dg} {e iv a0 a1 u0 u1 d m : Int} {t : Bool} (h : ¬ RR b e iv a0 a1 u0 u1 d m t) : rrB b e iv a0 a1 u0 u1 d m t = false := if_neg h
set_option maxHeartbeats 4000000 in
theorem right (a b : Dg) (e iv a0 a1 u0 u1 d m : Int) (t : Bool) : Fnc Try.prog 21 [.agg (regL a b e iv a0 a1 u0 u1 d m t).toArray] [] (Ret (.bool (rrB b e iv a0 a1 u0 u1 d m t)) []) := by
  cases t
  all_goals refine fn_intro Try.func21 (by kernel_rfl) ?_
  all_goals repeat' ((conv => whnf); first
      | refine loop_n 3 ?_
      | refine agg_neq kDg (by decide) rfl rfl rfl rfl (by kernel_rfl) (fDg _) fZ ?_
      | (refine nv (fun z hz => ?_); subst hz)
      | refine ld1_lit ?_
      | refine ldN_lit ?_
      | refine nw (fun n => ?_)
      | refine st_lit rfl ?_
      | refine need (by first | rfl | omega) ?_
      | (refine wr (fun z hz => ?_); (try rw [Int.tdiv_eq_ediv_of_nonneg (by omega)] at hz); rw [w64 (by omega) (by omega)] at hz; subst hz)
      | (refine zv (fun z hz => ?_); (try rw [Int.tmod_eq_emod_of_nonneg (by omega)] at hz); subst hz)
      | (refine ifs (fun h => ?_) (fun h => ?_) <;> (try (exfalso; first | omega | with_reducible contradiction | with_reducible exact h rfl)))
      | refine fin_nil ⟨?_, rfl⟩)
  all_goals first
    | exact ret_bool (rr_t ⟨by omega, by omega, by omega, by omega, by omega, by omega, by omega, by omega, by omega, by omega, by omega, by omega, by omega, by omega, by omega, by omega, fun _ => by omega, fun _ => by omega, fun _ => by omega, fun _ => ‹_›, by omega⟩).symm
    | (refine ret_bool (rr_f fun h => ?_).symm; have h1 := h.e0; have h2 := h.e1; have h3 := h.i0; have h4 := h.i1; have h5 := h.d0; have h6 := h.d1; have h7 := h.m0; have h8 := h.m1; have h9 := h.a00; have h10 := h.a01; have h11 := h.a10; have h12 := h.a11; have h13 := h.u00; have h14 := h.u01; have h15 := h.u10; have h16 := h.u11; have h17 := h.md; omega)
    | (refine ret_bool (rr_f fun h => ?_).symm; have h1 := h.at1 rfl; have h2 := h.at2 rfl; have h3 := h.at3 rfl; omega)
    | (refine ret_bool (rr_f fun h => ?_).symm; have h1 := h.at4 rfl; contradiction)
    | (refine ret_bool (rr_t ?_).symm; refine ⟨?_, ?_, ?_, ?_, ?_, ?_, ?_, ?_, ?_, ?_, ?_, ?_, ?_, ?_, ?_, ?_, ?_, ?_, ?_, ?_, ?_⟩ <;> first | omega | (intro hf; exact absurd hf (by decide)))
    | skip
end Go.Proofs.Ytjlgbihllijpbab.Reg
