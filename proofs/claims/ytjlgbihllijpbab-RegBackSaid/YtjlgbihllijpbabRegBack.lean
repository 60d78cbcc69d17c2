/- The law RegBack: there and back. -/
import Derived.Test.YtjlgbihllijpbabRegLaws
namespace Go.Proofs.Ytjlgbihllijpbab.Reg
open Go Ev Be Geom
set_option linter.unusedVariables false
set_option linter.unusedSimpArgs false
set_option maxRecDepth 100000
attribute [local irreducible] convert Builtin.copy_ Builtin.append_ Instr.makeSlice
theorem put_go (c : Dg) (h : GO c) : Fnc Try.prog 19 [.agg (regL c (bD c) (eC c) (iC c) (fC c 76) (fC c 78) (fC c 77) (fC c 79) (fC c 80) (fC c 81) (tC c)).toArray] [] (Ret (.tuple #[.string (S c), .int .i64 0]) []) := by
  have := put_t c h.rr
  rwa [h.eq] at this
attribute [local irreducible] S layL eC iC fC putS putE nuN nuA byS byE byA nuE getE getN tC
set_option maxHeartbeats 8000000 in
theorem regBack (a b : Dg) (e iv a0 a1 u0 u1 d m : Int) (t : Bool) (s : ByteArray) : Fnc Try.prog 6 [.agg (regL a b e iv a0 a1 u0 u1 d m t).toArray, .string s] [] (Ret (.bool true) []) := by
  have gs : (∃ c, s = S c ∧ GO c) ∨ ∃ k : Int, ¬ k = 0 ∧ Fnc Try.prog 24 [.string s] [] (Ret (.tuple #[.agg regZ.toArray, .int .i64 k]) []) := by
    by_cases h96 : s.size = 96
    · by_cases hz : s = str (List.replicate 96 0)
      · exact .inr ⟨19, by omega, by rw [hz]; exact get_fmt⟩
      · obtain ⟨c, hc⟩ := str_96 h96
        obtain rfl : s = S c := by rw [hc]; exact S_str c
        rcases Classical.em (GO c) with hG | hG
        · exact .inl ⟨c, rfl, hG⟩
        · exact .inr ⟨6, by omega, get_no c hz hG⟩
    · exact .inr ⟨6, by omega, get_form s h96⟩
  refine fn_intro Try.func6 (by kernel_rfl) ?_
  rcases Classical.em (RR b e iv a0 a1 u0 u1 d m t) with hR | hR
  · have hp := put_t a hR
    have hg := get_lay hR a
    generalize str (layL a b e iv a0 a1 u0 u1 d m t) = sL at *
    rcases gs with ⟨c, rfl, hG⟩ | ⟨k, hk, gs⟩
    · repeat' ((conv => whnf); first
        | refine call_val hp ?_
        | refine call_val hg ?_
        | refine call_val (get_yes c hG) ?_
        | refine call_val (put_go c hG) ?_
        | refine call_val awake ?_
        | refine agg_neq kReg (by decide) rfl rfl rfl rfl (by kernel_rfl) (fReg _ _ _ _ _ _ _ _ _ _ _) (fReg _ _ _ _ _ _ _ _ _ _ _) ?_
        | exact fin_nil ⟨ret_bool rfl, rfl⟩
        | refine ld1_lit ?_
        | refine ldN_lit ?_
        | refine nw (fun n => ?_)
        | refine st_lit rfl ?_
        | refine need (by first | rfl | omega) ?_
        | (refine wr (fun z hz => ?_); (try rw [Int.tdiv_eq_ediv_of_nonneg (by omega)] at hz); rw [w64 (by omega) (by omega)] at hz; subst hz)
        | (refine zv (fun z hz => ?_); (try rw [Int.tmod_eq_emod_of_nonneg (by omega)] at hz); subst hz)
        | (refine ifs (fun h => ?_) (fun h => ?_) <;> (try (exfalso; first | omega | with_reducible contradiction | with_reducible exact h rfl)))
        | refine fin_nil ⟨?_, rfl⟩)
    · repeat' ((conv => whnf); first
        | refine call_val hp ?_
        | refine call_val hg ?_
        | refine call_val gs ?_
        | refine call_val awake ?_
        | refine agg_neq kReg (by decide) rfl rfl rfl rfl (by kernel_rfl) (fReg _ _ _ _ _ _ _ _ _ _ _) (fReg _ _ _ _ _ _ _ _ _ _ _) ?_
        | exact fin_nil ⟨ret_bool rfl, rfl⟩
        | refine ld1_lit ?_
        | refine ldN_lit ?_
        | refine nw (fun n => ?_)
        | refine st_lit rfl ?_
        | refine need (by first | rfl | omega) ?_
        | (refine wr (fun z hz => ?_); (try rw [Int.tdiv_eq_ediv_of_nonneg (by omega)] at hz); rw [w64 (by omega) (by omega)] at hz; subst hz)
        | (refine zv (fun z hz => ?_); (try rw [Int.tmod_eq_emod_of_nonneg (by omega)] at hz); subst hz)
        | (refine ifs (fun h => ?_) (fun h => ?_) <;> (try (exfalso; first | omega | with_reducible contradiction | with_reducible exact h rfl)))
        | refine fin_nil ⟨?_, rfl⟩)
  · rcases gs with ⟨c, rfl, hG⟩ | ⟨k, hk, gs⟩
    · repeat' ((conv => whnf); first
        | refine call_val (put_f a hR) ?_
        | refine call_val (get_yes c hG) ?_
        | refine call_val (put_go c hG) ?_
        | refine call_val awake ?_
        | exact fin_nil ⟨ret_bool rfl, rfl⟩
        | refine ld1_lit ?_
        | refine ldN_lit ?_
        | refine nw (fun n => ?_)
        | refine st_lit rfl ?_
        | refine need (by first | rfl | omega) ?_
        | (refine wr (fun z hz => ?_); (try rw [Int.tdiv_eq_ediv_of_nonneg (by omega)] at hz); rw [w64 (by omega) (by omega)] at hz; subst hz)
        | (refine zv (fun z hz => ?_); (try rw [Int.tmod_eq_emod_of_nonneg (by omega)] at hz); subst hz)
        | (refine ifs (fun h => ?_) (fun h => ?_) <;> (try (exfalso; first | omega | with_reducible contradiction | with_reducible exact h rfl)))
        | refine fin_nil ⟨?_, rfl⟩)
    · repeat' ((conv => whnf); first
        | refine call_val (put_f a hR) ?_
        | refine call_val gs ?_
        | refine call_val awake ?_
        | exact fin_nil ⟨ret_bool rfl, rfl⟩
        | refine ld1_lit ?_
        | refine ldN_lit ?_
        | refine nw (fun n => ?_)
        | refine st_lit rfl ?_
        | refine need (by first | rfl | omega) ?_
        | (refine wr (fun z hz => ?_); (try rw [Int.tdiv_eq_ediv_of_nonneg (by omega)] at hz); rw [w64 (by omega) (by omega)] at hz; subst hz)
        | (refine zv (fun z hz => ?_); (try rw [Int.tmod_eq_emod_of_nonneg (by omega)] at hz); subst hz)
        | (refine ifs (fun h => ?_) (fun h => ?_) <;> (try (exfalso; first | omega | with_reducible contradiction | with_reducible exact h rfl)))
        | refine fin_nil ⟨?_, rfl⟩)
end Go.Proofs.Ytjlgbihllijpbab.Reg
