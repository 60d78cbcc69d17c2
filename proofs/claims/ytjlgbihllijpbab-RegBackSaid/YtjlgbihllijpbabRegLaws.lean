/- The laws of layer 11: their Go functions return true. -/
import Derived.Test.YtjlgbihllijpbabRegM4
import Derived.Test.YtjlgbihllijpbabReg6
namespace Go.Proofs.Ytjlgbihllijpbab.Reg
open Go Ev Be Geom
set_option linter.unusedVariables false
set_option linter.unusedSimpArgs false
set_option maxRecDepth 100000
abbrev regA : List Value := [.int .u8 0, .int .u8 0, .int .u8 0, .int .u8 0, .int .u8 0, .int .u8 0, .int .u8 0, .int .u8 0, .int .u8 0, .int .u8 0, .int .u8 0, .int .u8 0, .int .u8 0, .int .u8 0, .int .u8 0, .int .u8 0, .int .u8 0, .int .u8 0, .int .u8 0, .int .u8 0, .int .u8 0, .int .u8 0, .int .u8 0, .int .u8 0, .int .u8 0, .int .u8 0, .int .u8 0, .int .u8 0, .int .u8 0, .int .u8 0, .int .u8 0, .int .u8 0, .int .u8 0, .int .u8 0, .int .u8 0, .int .u8 0, .int .u8 0, .int .u8 0, .int .u8 0, .int .u8 0, .int .u8 0, .int .u8 0, .int .u8 0, .int .u8 0, .int .u8 0, .int .u8 0, .int .u8 0, .int .u8 0, .int .u8 0, .int .u8 0, .int .u8 0, .int .u8 0, .int .u8 0, .int .u8 0, .int .u8 0, .int .u8 0, .int .u8 0, .int .u8 0, .int .u8 0, .int .u8 0, .int .u8 0, .int .u8 0, .int .u8 0, .int .u8 0, .int .i64 7, .int .i64 258, .int .i64 0, .int .i64 0, .int .i64 3, .int .i64 4, .int .i64 2, .int .i64 0, .bool true]
theorem regA_eq : regA = regL (fun _ => 0) (fun _ => 0) 7 258 0 0 3 4 2 0 true := rfl
theorem rrA : RR (fun _ => 0) 7 258 0 0 3 4 2 0 true := by
  refine ⟨by omega, by omega, by omega, by omega, by omega, by omega, by omega, by omega, by omega, by omega, by omega, by omega, by omega, by omega, by omega, by omega, ?_, ?_, ?_, ?_, by omega⟩ <;> (intro h; cases h)
theorem kReg : kindsOf Try.prog 6 41 = some (List.replicate 64 (.int .u8) ++ List.replicate 8 (.int .i64) ++ [.bool]) := by kernel_rfl
theorem fReg (a b : Dg) (e iv a0 a1 u0 u1 d m : Int) (t : Bool) : Fits (List.replicate 64 (.int .u8) ++ List.replicate 8 (.int .i64) ++ [.bool]) (regL a b e iv a0 a1 u0 u1 d m t) := by
  repeat' first | exact trivial | (refine ⟨⟨_, rfl⟩, ?_⟩)
theorem fRegZ : Fits (List.replicate 64 (.int .u8) ++ List.replicate 8 (.int .i64) ++ [.bool]) regZ := by
  repeat' first | exact trivial | (refine ⟨⟨_, rfl⟩, ?_⟩)
section
variable {a b : Dg} {e iv a0 a1 u0 u1 d m : Int} {t : Bool}
theorem get_lay (h : RR b e iv a0 a1 u0 u1 d m t) (a : Dg) : Fnc Try.prog 24 [.string (str (layL a b e iv a0 a1 u0 u1 d m t))] [] (Ret (.tuple #[.agg (regL a b e iv a0 a1 u0 u1 d m t).toArray, .int .i64 0]) []) := by
  obtain ⟨c, hc⟩ := lay_some a b e iv a0 a1 u0 u1 d m t
  obtain ⟨h1, h2⟩ := lay_back h hc
  have := get_yes c h1
  rwa [h2, hc] at this
end
theorem rget_yes (c : Dg) (h : GO c) : Fnc Try.prog 25 [.string (S c)] [] (Ret (.tuple #[.agg (regL c (bD c) (eC c) (iC c) (fC c 76) (fC c 78) (fC c 77) (fC c 79) (fC c 80) (fC c 81) (tC c)).toArray, .int .i64 0]) []) := by
  refine Fnc_mono (rget c (go_nz c h)) fun e A hq => ?_
  obtain ⟨rfl, h1⟩ := hq
  rcases h1 with ⟨_, h2⟩ | ⟨h1, _⟩
  · exact ⟨h2, rfl⟩
  · exact absurd ((go_iff c).1 h) h1
theorem rget_no (c : Dg) (hz : ¬ S c = str (List.replicate 96 0)) (h : ¬ GO c) : Fnc Try.prog 25 [.string (S c)] [] (Ret (.tuple #[.agg regZ.toArray, .int .i64 6]) []) := by
  refine Fnc_mono (rget c hz) fun e A hq => ?_
  obtain ⟨rfl, h1⟩ := hq
  rcases h1 with ⟨h1, _⟩ | ⟨_, h2⟩
  · exact absurd ((go_iff c).2 h1) h
  · exact ⟨h2, rfl⟩
theorem put_A : Fnc Try.prog 19 [.agg regA.toArray] [] (Ret (.tuple #[.string (str (layL (fun _ => 0) (fun _ => 0) 7 258 0 0 3 4 2 0 true)), .int .i64 0]) []) := by
  rw [regA_eq]; exact put_t _ rrA
theorem get_A : Fnc Try.prog 24 [.string (str (layL (fun _ => 0) (fun _ => 0) 7 258 0 0 3 4 2 0 true))] [] (Ret (.tuple #[.agg regA.toArray, .int .i64 0]) []) := by
  rw [regA_eq]; exact get_lay rrA _
theorem size_A : (str (layL (fun _ => 0) (fun _ => 0) 7 258 0 0 3 4 2 0 true)).size = 96 := by rw [Ev.str_size]; rfl
attribute [local irreducible] convert Builtin.copy_ Builtin.append_ Instr.makeSlice
attribute [local irreducible] S layL eC iC fC putS putE nuN nuA byS byE byA nuE getE getN tC
theorem awake : Fnc Try.prog 22 [] [] (Ret (.bool true) []) := by
  have p1 := put_A
  have p2 := get_A
  have p3 := size_A
  generalize str (layL (fun _ => 0) (fun _ => 0) 7 258 0 0 3 4 2 0 true) = sA at *
  have zs := zeros96
  have zg := get_fmt
  generalize str (List.replicate 96 0) = z0 at *
  refine fn_intro Try.func22 (by kernel_rfl) ?_
  repeat' ((conv => whnf); first
      | refine call_val p1 ?_
      | refine call_val p2 ?_
      | refine call_val zs ?_
      | refine call_val zg ?_
      | (refine nv (fun z hz => ?_); (try simp at hz); replace hz := hz.symm; subst hz)
      | exact fin_nil ⟨ret_bool rfl, rfl⟩
      | refine ld1_lit ?_
      | refine ldN_lit ?_
      | refine nw (fun n => ?_)
      | refine st_lit rfl ?_
      | refine need (by first | rfl | omega) ?_
      | (refine wr (fun z hz => ?_); (try rw [Int.tdiv_eq_ediv_of_nonneg (by omega)] at hz); rw [w64 (by omega) (by omega)] at hz; subst hz)
      | (refine zv (fun z hz => ?_); (try rw [Int.tmod_eq_emod_of_nonneg (by omega)] at hz); subst hz)
      | (refine ifs (fun h => ?_) (fun h => ?_) <;> (try (exfalso; first | omega | with_reducible contradiction | with_reducible exact h rfl)))
      | refine fin_nil ⟨?_, rfl⟩)
set_option maxHeartbeats 4000000 in
theorem regPuts (a b : Dg) (e iv a0 a1 u0 u1 d m : Int) (t : Bool) : Fnc Try.prog 4 [.agg (regL a b e iv a0 a1 u0 u1 d m t).toArray] [] (Ret (.bool true) []) := by
  refine fn_intro Try.func4 (by kernel_rfl) ?_
  rcases Classical.em (RR b e iv a0 a1 u0 u1 d m t) with hR | hR
  · have hl := lay a hR
    have hp := put_t a hR
    generalize str (layL a b e iv a0 a1 u0 u1 d m t) = sL at *
    repeat' ((conv => whnf); first
        | refine call_val hp ?_
        | refine call_val (check_t a hR) ?_
        | refine call_val (right_t a hR) ?_
        | refine call_val hl ?_
        | refine call_val awake ?_
        | exact fin_nil ⟨ret_bool rfl, rfl⟩
        | refine ld1_lit ?_
        | refine ldN_lit ?_
        | refine nw (fun n => ?_)
        | refine st_lit rfl ?_
        | refine need (by first | rfl | omega) ?_
        | (refine wr (fun z hz => ?_); (try rw [Int.tdiv_eq_ediv_of_nonneg (by omega)] at hz); rw [w64 (by omega) (by omega)] at hz; subst hz)
        | (refine zv (fun z hz => ?_); (try rw [Int.tmod_eq_emod_of_nonneg (by omega)] at hz); subst hz)
        | (refine ifs (fun h => ?_) (fun h => ?_) <;> (try (exfalso; first | omega | with_reducible contradiction | with_reducible exact h rfl)))
        | refine fin_nil ⟨?_, rfl⟩)
  · repeat' ((conv => whnf); first
      | refine call_val (put_f a hR) ?_
      | refine call_val (check_f a hR) ?_
      | refine call_val (right_f a hR) ?_
      | refine call_val awake ?_
      | exact fin_nil ⟨ret_bool rfl, rfl⟩
      | refine ld1_lit ?_
      | refine ldN_lit ?_
      | refine nw (fun n => ?_)
      | refine st_lit rfl ?_
      | refine need (by first | rfl | omega) ?_
      | (refine wr (fun z hz => ?_); (try rw [Int.tdiv_eq_ediv_of_nonneg (by omega)] at hz); rw [w64 (by omega) (by omega)] at hz; subst hz)
      | (refine zv (fun z hz => ?_); (try rw [Int.tmod_eq_emod_of_nonneg (by omega)] at hz); subst hz)
      | (refine ifs (fun h => ?_) (fun h => ?_) <;> (try (exfalso; first | omega | with_reducible contradiction | with_reducible exact h rfl)))
      | refine fin_nil ⟨?_, rfl⟩)
set_option maxHeartbeats 4000000 in
theorem regGets (s : ByteArray) : Fnc Try.prog 5 [.string s] [] (Ret (.bool true) []) := by
  refine fn_intro Try.func5 (by kernel_rfl) ?_
  by_cases h96 : s.size = 96
  · by_cases hz : s = str (List.replicate 96 0)
    · have z1 := get_fmt
      have z2 := rget_fmt
      rw [← hz] at z1 z2
      repeat' ((conv => whnf); first
          | refine call_val z1 ?_
          | refine call_val z2 ?_
          | refine call_val awake ?_
          | refine agg_eql kReg (by decide) rfl rfl rfl rfl (by kernel_rfl) fRegZ fRegZ ?_
          | exact fin_nil ⟨ret_bool rfl, rfl⟩
          | refine ld1_lit ?_
          | refine ldN_lit ?_
          | refine nw (fun n => ?_)
          | refine st_lit rfl ?_
          | refine need (by first | rfl | omega) ?_
          | (refine wr (fun z hz => ?_); (try rw [Int.tdiv_eq_ediv_of_nonneg (by omega)] at hz); rw [w64 (by omega) (by omega)] at hz; subst hz)
          | (refine zv (fun z hz => ?_); (try rw [Int.tmod_eq_emod_of_nonneg (by omega)] at hz); subst hz)
          | (refine ifs (fun h => ?_) (fun h => ?_) <;> (try (exfalso; first | omega | with_reducible contradiction | with_reducible exact h rfl)))
          | refine fin_nil ⟨?_, rfl⟩)
    · obtain ⟨c, hc⟩ := str_96 h96
      obtain rfl : s = S c := by rw [hc]; exact S_str c
      rcases Classical.em (GO c) with hG | hG
      · repeat' ((conv => whnf); first
          | refine call_val (get_yes c hG) ?_
          | refine call_val (rget_yes c hG) ?_
          | refine call_val awake ?_
          | refine agg_eql kReg (by decide) rfl rfl rfl rfl (by kernel_rfl) (fReg _ _ _ _ _ _ _ _ _ _ _) (fReg _ _ _ _ _ _ _ _ _ _ _) ?_
          | exact fin_nil ⟨ret_bool rfl, rfl⟩
          | refine ld1_lit ?_
          | refine ldN_lit ?_
          | refine nw (fun n => ?_)
          | refine st_lit rfl ?_
          | refine need (by first | rfl | omega) ?_
          | (refine wr (fun z hz => ?_); (try rw [Int.tdiv_eq_ediv_of_nonneg (by omega)] at hz); rw [w64 (by omega) (by omega)] at hz; subst hz)
          | (refine zv (fun z hz => ?_); (try rw [Int.tmod_eq_emod_of_nonneg (by omega)] at hz); subst hz)
          | (refine ifs (fun h => ?_) (fun h => ?_) <;> (try (exfalso; first | omega | with_reducible contradiction | with_reducible exact h rfl)))
          | refine fin_nil ⟨?_, rfl⟩)
      · repeat' ((conv => whnf); first
          | refine call_val (get_no c hz hG) ?_
          | refine call_val (rget_no c hz hG) ?_
          | refine call_val awake ?_
          | refine agg_eql kReg (by decide) rfl rfl rfl rfl (by kernel_rfl) fRegZ fRegZ ?_
          | exact fin_nil ⟨ret_bool rfl, rfl⟩
          | refine ld1_lit ?_
          | refine ldN_lit ?_
          | refine nw (fun n => ?_)
          | refine st_lit rfl ?_
          | refine need (by first | rfl | omega) ?_
          | (refine wr (fun z hz => ?_); (try rw [Int.tdiv_eq_ediv_of_nonneg (by omega)] at hz); rw [w64 (by omega) (by omega)] at hz; subst hz)
          | (refine zv (fun z hz => ?_); (try rw [Int.tmod_eq_emod_of_nonneg (by omega)] at hz); subst hz)
          | (refine ifs (fun h => ?_) (fun h => ?_) <;> (try (exfalso; first | omega | with_reducible contradiction | with_reducible exact h rfl)))
          | refine fin_nil ⟨?_, rfl⟩)
  · repeat' ((conv => whnf); first
      | refine call_val (get_form s h96) ?_
      | refine call_val (rget_form s h96) ?_
      | refine call_val awake ?_
      | refine agg_eql kReg (by decide) rfl rfl rfl rfl (by kernel_rfl) fRegZ fRegZ ?_
      | exact fin_nil ⟨ret_bool rfl, rfl⟩
      | refine ld1_lit ?_
      | refine ldN_lit ?_
      | refine nw (fun n => ?_)
      | refine st_lit rfl ?_
      | refine need (by first | rfl | omega) ?_
      | (refine wr (fun z hz => ?_); (try rw [Int.tdiv_eq_ediv_of_nonneg (by omega)] at hz); rw [w64 (by omega) (by omega)] at hz; subst hz)
      | (refine zv (fun z hz => ?_); (try rw [Int.tmod_eq_emod_of_nonneg (by omega)] at hz); subst hz)
      | (refine ifs (fun h => ?_) (fun h => ?_) <;> (try (exfalso; first | omega | with_reducible contradiction | with_reducible exact h rfl)))
      | refine fin_nil ⟨?_, rfl⟩)
end Go.Proofs.Ytjlgbihllijpbab.Reg
