/- The law's do. -/
import Derived.Test.YtlmhagngbfcdkaaSl9
namespace Go.Proofs.Ytlmhagngbfcdkaa.Slots
open Go Ev Be
set_option linter.unusedVariables false
set_option linter.unusedSimpArgs false
set_option maxRecDepth 100000
attribute [local irreducible] rl tc bu biX rowI rowE rowS padE padS by1 pw full convert Builtin.copy_ Builtin.append_ Instr.makeSlice
set_option maxHeartbeats 2000000 in
theorem do_free (r g q cap : Nat) (s : Nat → Sl10) (junk : List Value) (grp sl p : Int) (v d : Bool) (hq : q ≤ 8) (hG : Good q s) :
    Fnc Try.prog 11 [pt r, lv g q cap, aV 3 grp sl p v d] [tB r q s, lb g q s junk] (DoQ r q g cap s junk) := by
  by_cases hin : 0 ≤ sl ∧ sl < q
  · obtain ⟨i, rfl⟩ := Int.eq_ofNat_of_zero_le hin.1
    have hi : i < q := by omega
    by_cases hg : (s i).g < 0
    · refine fn_intro Try.func11 (by kernel_rfl) ?_
      repeat' ((conv => whnf); first
          | refine call_ret (free_none r q s hq i hi hg) (.cons (by first | exact .here | exact .there .here | exact .there (.there .here) | exact .there (.there (.there .here)) | exact .there (.there (.there (.there .here))) | exact .there (.there (.there (.there (.there .here)))) | exact .there (.there (.there (.there (.there (.there .here)))))) .nil) ?_
          | (refine nv (fun z hz => ?_); (try simp at hz); replace hz := hz.symm; subst hz)
          | refine ld1_row (v := .int .i64 (s i).g) (ll_get' (i := i) (k := 0) (by omega) (by omega) (by omega) rfl) ?_
          | refine ld1_lit ?_
          | refine ldN_lit ?_
          | refine nw (fun n => ?_)
          | refine st_lit rfl ?_
          | refine need (by first | rfl | omega) ?_
          | (refine wr (fun z hz => ?_); (try rw [Int.tdiv_eq_ediv_of_nonneg (by omega)] at hz); rw [w64 (by omega) (by omega)] at hz; subst hz)
          | (refine zv (fun z hz => ?_); (try rw [Int.tmod_eq_emod_of_nonneg (by omega)] at hz); subst hz)
          | (refine ifs (fun h => ?_) (fun h => ?_) <;> (try (exfalso; first | omega | with_reducible contradiction | with_reducible exact h rfl))))
      all_goals (conv => whnf)
      exact fin_do (.cons (by first | exact .here | exact .there .here | exact .there (.there .here) | exact .there (.there (.there .here)) | exact .there (.there (.there (.there .here))) | exact .there (.there (.there (.there (.there .here)))) | exact .there (.there (.there (.there (.there (.there .here)))))) (.cons (by first | exact .here | exact .there .here | exact .there (.there .here) | exact .there (.there (.there .here)) | exact .there (.there (.there (.there .here))) | exact .there (.there (.there (.there (.there .here)))) | exact .there (.there (.there (.there (.there (.there .here)))))) .nil)) hG
    · have hrb := rbusy (s i)
      rcases hbz : busyB (s i) with _ | _
      · rw [hbz] at hrb
        refine fn_intro Try.func11 (by kernel_rfl) ?_
        repeat' ((conv => whnf); first
            | refine call_ret (free_ok r q s hq i hi hg hbz) (.cons (by first | exact .here | exact .there .here | exact .there (.there .here) | exact .there (.there (.there .here)) | exact .there (.there (.there (.there .here))) | exact .there (.there (.there (.there (.there .here)))) | exact .there (.there (.there (.there (.there (.there .here)))))) .nil) ?_
            | (refine nv (fun z hz => ?_); (try simp at hz); replace hz := hz.symm; subst hz)
            | refine ld1_row (v := .int .i64 (s i).g) (ll_get' (i := i) (k := 0) (by omega) (by omega) (by omega) rfl) ?_
            | refine ldN_row (sc (s i)) (ll_part (by omega)) rfl ?_
            | refine call_val hrb ?_
            | (refine call_fn (rset g q cap i s junk freeS hq (by omega)) (.cons (by first | exact .here | exact .there .here | exact .there (.there .here) | exact .there (.there (.there .here)) | exact .there (.there (.there (.there .here))) | exact .there (.there (.there (.there (.there .here)))) | exact .there (.there (.there (.there (.there (.there .here)))))) .nil) (fun e A' hq' => ?_); obtain ⟨g', cap', junk', h1, h2⟩ := hq'; subst h1; subst h2)
            | refine ld1_lit ?_
            | refine ldN_lit ?_
            | refine nw (fun n => ?_)
            | refine st_lit rfl ?_
            | refine need (by first | rfl | omega) ?_
            | (refine wr (fun z hz => ?_); (try rw [Int.tdiv_eq_ediv_of_nonneg (by omega)] at hz); rw [w64 (by omega) (by omega)] at hz; subst hz)
            | (refine zv (fun z hz => ?_); (try rw [Int.tmod_eq_emod_of_nonneg (by omega)] at hz); subst hz)
            | (refine ifs (fun h => ?_) (fun h => ?_) <;> (try (exfalso; first | omega | with_reducible contradiction | with_reducible exact h rfl))))
        all_goals (conv => whnf)
        exact fin_new (.cons (by first | exact .here | exact .there .here | exact .there (.there .here) | exact .there (.there (.there .here)) | exact .there (.there (.there (.there .here))) | exact .there (.there (.there (.there (.there .here)))) | exact .there (.there (.there (.there (.there (.there .here)))))) (.cons (by first | exact .here | exact .there .here | exact .there (.there .here) | exact .there (.there (.there .here)) | exact .there (.there (.there (.there .here))) | exact .there (.there (.there (.there (.there .here)))) | exact .there (.there (.there (.there (.there (.there .here)))))) (.cons (by first | exact .here | exact .there .here | exact .there (.there .here) | exact .there (.there (.there .here)) | exact .there (.there (.there (.there .here))) | exact .there (.there (.there (.there (.there .here)))) | exact .there (.there (.there (.there (.there (.there .here)))))) .nil))) (hG.upd hi ok_free)
      · rw [hbz] at hrb
        refine fn_intro Try.func11 (by kernel_rfl) ?_
        repeat' ((conv => whnf); first
            | refine call_ret (free_busy r q s hq i hi hg hbz) (.cons (by first | exact .here | exact .there .here | exact .there (.there .here) | exact .there (.there (.there .here)) | exact .there (.there (.there (.there .here))) | exact .there (.there (.there (.there (.there .here)))) | exact .there (.there (.there (.there (.there (.there .here)))))) .nil) ?_
            | (refine nv (fun z hz => ?_); (try simp at hz); replace hz := hz.symm; subst hz)
            | refine ld1_row (v := .int .i64 (s i).g) (ll_get' (i := i) (k := 0) (by omega) (by omega) (by omega) rfl) ?_
            | refine ldN_row (sc (s i)) (ll_part (by omega)) rfl ?_
            | refine call_val hrb ?_
            | refine ld1_lit ?_
            | refine ldN_lit ?_
            | refine nw (fun n => ?_)
            | refine st_lit rfl ?_
            | refine need (by first | rfl | omega) ?_
            | (refine wr (fun z hz => ?_); (try rw [Int.tdiv_eq_ediv_of_nonneg (by omega)] at hz); rw [w64 (by omega) (by omega)] at hz; subst hz)
            | (refine zv (fun z hz => ?_); (try rw [Int.tmod_eq_emod_of_nonneg (by omega)] at hz); subst hz)
            | (refine ifs (fun h => ?_) (fun h => ?_) <;> (try (exfalso; first | omega | with_reducible contradiction | with_reducible exact h rfl))))
        all_goals (conv => whnf)
        exact fin_do (.cons (by first | exact .here | exact .there .here | exact .there (.there .here) | exact .there (.there (.there .here)) | exact .there (.there (.there (.there .here))) | exact .there (.there (.there (.there (.there .here)))) | exact .there (.there (.there (.there (.there (.there .here)))))) (.cons (by first | exact .here | exact .there .here | exact .there (.there .here) | exact .there (.there (.there .here)) | exact .there (.there (.there (.there .here))) | exact .there (.there (.there (.there (.there .here)))) | exact .there (.there (.there (.there (.there (.there .here)))))) .nil)) hG
  · refine fn_intro Try.func11 (by kernel_rfl) ?_
    repeat' ((conv => whnf); first
        | refine call_ret (free_out r q s sl (by omega)) (.cons (by first | exact .here | exact .there .here | exact .there (.there .here) | exact .there (.there (.there .here)) | exact .there (.there (.there (.there .here))) | exact .there (.there (.there (.there (.there .here)))) | exact .there (.there (.there (.there (.there (.there .here)))))) .nil) ?_
        | refine ld1_lit ?_
        | refine ldN_lit ?_
        | refine nw (fun n => ?_)
        | refine st_lit rfl ?_
        | refine need (by first | rfl | omega) ?_
        | (refine wr (fun z hz => ?_); (try rw [Int.tdiv_eq_ediv_of_nonneg (by omega)] at hz); rw [w64 (by omega) (by omega)] at hz; subst hz)
        | (refine zv (fun z hz => ?_); (try rw [Int.tmod_eq_emod_of_nonneg (by omega)] at hz); subst hz)
        | (refine ifs (fun h => ?_) (fun h => ?_) <;> (try (exfalso; first | omega | with_reducible contradiction | with_reducible exact h rfl))))
    all_goals (conv => whnf)
    all_goals exact fin_do (.cons (by first | exact .here | exact .there .here | exact .there (.there .here) | exact .there (.there (.there .here)) | exact .there (.there (.there (.there .here))) | exact .there (.there (.there (.there (.there .here)))) | exact .there (.there (.there (.there (.there (.there .here)))))) (.cons (by first | exact .here | exact .there .here | exact .there (.there .here) | exact .there (.there (.there .here)) | exact .there (.there (.there (.there .here))) | exact .there (.there (.there (.there (.there .here)))) | exact .there (.there (.there (.there (.there (.there .here)))))) .nil)) hG
set_option maxHeartbeats 2000000 in
theorem do_find (r g q cap : Nat) (s : Nat → Sl10) (junk : List Value) (k grp sl p : Int) (v d : Bool) (hq : q ≤ 8) (hG : Good q s) (hk : ¬ (0 ≤ k ∧ k ≤ 7)) :
    Fnc Try.prog 11 [pt r, lv g q cap, aV k grp sl p v d] [tB r q s, lb g q s junk] (DoQ r q g cap s junk) := by
  have key : ∃ (x : Int) (b : Bool) (y : Int), Fnc Try.prog 15 [pt r, .int .i64 grp] [tB r q s] (Ret (.tuple #[.int .i64 x, .bool b]) [tB r q s]) ∧ Fnc Try.prog 31 [lv g q cap, .int .i64 grp] [lb g q s junk] (Ret (.int .i64 y) [lb g q s junk]) ∧ ((b = true ∧ 0 ≤ y ∧ x = y) ∨ (b = false ∧ y < 0)) := by
    by_cases hn : grp < 0
    · have hf := rfind g q cap s junk grp hq q ⟨Nat.le_refl _, fun j hj hc => absurd hc.2 (by omega), fun hc => absurd hc (by omega)⟩
      rw [if_neg (by omega)] at hf
      exact ⟨0, false, -1, find_neg r q grp s hn, hf, .inr ⟨rfl, by omega⟩⟩
    · obtain ⟨k8, h8⟩ := isF_ex (fun j => (s j).g = grp) 8
      have hfi := find r q grp s k8 (by omega) h8
      by_cases hk8 : k8 < 8
      · obtain ⟨hn', hkq⟩ := isF_less hG hq (by omega) h8 hk8
        have hf := rfind g q cap s junk grp hq k8 hn'
        rw [if_pos hkq] at hf
        rw [if_pos hk8] at hfi
        exact ⟨k8, true, k8, hfi, hf, .inl ⟨rfl, by omega, rfl⟩⟩
      · obtain rfl : k8 = 8 := by have := h8.1; omega
        have hf := rfind g q cap s junk grp hq q (isF_none hq h8)
        rw [if_neg (by omega)] at hf
        rw [if_neg (by omega)] at hfi
        exact ⟨0, false, -1, hfi, hf, .inr ⟨rfl, by omega⟩⟩
  obtain ⟨x, b, y, h1, h2, h3⟩ := key
  rcases h3 with ⟨rfl, h4, rfl⟩ | ⟨rfl, h4⟩
  all_goals refine fn_intro Try.func11 (by kernel_rfl) ?_
  all_goals repeat' ((conv => whnf); first
      | refine call_ret h1 (.cons (by first | exact .here | exact .there .here | exact .there (.there .here) | exact .there (.there (.there .here)) | exact .there (.there (.there (.there .here))) | exact .there (.there (.there (.there (.there .here)))) | exact .there (.there (.there (.there (.there (.there .here)))))) .nil) ?_
      | refine call_ret h2 (.cons (by first | exact .here | exact .there .here | exact .there (.there .here) | exact .there (.there (.there .here)) | exact .there (.there (.there (.there .here))) | exact .there (.there (.there (.there (.there .here)))) | exact .there (.there (.there (.there (.there (.there .here)))))) .nil) ?_
      | refine ld1_lit ?_
      | refine ldN_lit ?_
      | refine nw (fun n => ?_)
      | refine st_lit rfl ?_
      | refine need (by first | rfl | omega) ?_
      | (refine wr (fun z hz => ?_); (try rw [Int.tdiv_eq_ediv_of_nonneg (by omega)] at hz); rw [w64 (by omega) (by omega)] at hz; subst hz)
      | (refine zv (fun z hz => ?_); (try rw [Int.tmod_eq_emod_of_nonneg (by omega)] at hz); subst hz)
      | (refine ifs (fun h => ?_) (fun h => ?_) <;> (try (exfalso; first | omega | with_reducible contradiction | with_reducible exact h rfl))))
  all_goals (conv => whnf)
  all_goals exact fin_do (.cons (by first | exact .here | exact .there .here | exact .there (.there .here) | exact .there (.there (.there .here)) | exact .there (.there (.there (.there .here))) | exact .there (.there (.there (.there (.there .here)))) | exact .there (.there (.there (.there (.there (.there .here)))))) (.cons (by first | exact .here | exact .there .here | exact .there (.there .here) | exact .there (.there (.there .here)) | exact .there (.there (.there (.there .here))) | exact .there (.there (.there (.there (.there .here)))) | exact .there (.there (.there (.there (.there (.there .here)))))) .nil)) hG
set_option maxHeartbeats 2000000 in
theorem doK (r g q cap : Nat) (s : Nat → Sl10) (junk : List Value) (k grp sl p : Int) (v d : Bool) (hq : q ≤ 8) (hG : Good q s) :
    Fnc Try.prog 11 [pt r, lv g q cap, aV k grp sl p v d] [tB r q s, lb g q s junk] (DoQ r q g cap s junk) := by
  by_cases hk : 0 ≤ k ∧ k ≤ 7
  · by_cases h3 : k = 3
    · subst h3; exact do_free r g q cap s junk grp sl p v d hq hG
    · by_cases h2 : k ≤ 2
      · have hc : k = 0 ∨ k = 1 ∨ k = 2 := by omega
        rcases hc with rfl | rfl | rfl
        all_goals refine fn_intro Try.func11 (by kernel_rfl) ?_
        all_goals repeat' ((conv => whnf); first
            | (refine call_fn (take r g q cap s junk grp hq hG) (.cons (by first | exact .here | exact .there .here | exact .there (.there .here) | exact .there (.there (.there .here)) | exact .there (.there (.there (.there .here))) | exact .there (.there (.there (.there (.there .here)))) | exact .there (.there (.there (.there (.there (.there .here)))))) (.cons (by first | exact .here | exact .there .here | exact .there (.there .here) | exact .there (.there (.there .here)) | exact .there (.there (.there (.there .here))) | exact .there (.there (.there (.there (.there .here)))) | exact .there (.there (.there (.there (.there (.there .here)))))) .nil)) (fun e A' hq' => ?_); obtain ⟨s', g', cap', junk', hG', h1, h2⟩ := hq'; subst h1; rcases h2 with ⟨rfl, rfl, rfl, rfl, rfl⟩ | rfl)
            | refine ld1_lit ?_
            | refine ldN_lit ?_
            | refine nw (fun n => ?_)
            | refine st_lit rfl ?_
            | refine need (by first | rfl | omega) ?_
            | (refine wr (fun z hz => ?_); (try rw [Int.tdiv_eq_ediv_of_nonneg (by omega)] at hz); rw [w64 (by omega) (by omega)] at hz; subst hz)
            | (refine zv (fun z hz => ?_); (try rw [Int.tmod_eq_emod_of_nonneg (by omega)] at hz); subst hz)
            | (refine ifs (fun h => ?_) (fun h => ?_) <;> (try (exfalso; first | omega | with_reducible contradiction | with_reducible exact h rfl))))
        all_goals (conv => whnf)
        all_goals first | exact fin_do (.cons (by first | exact .here | exact .there .here | exact .there (.there .here) | exact .there (.there (.there .here)) | exact .there (.there (.there (.there .here))) | exact .there (.there (.there (.there (.there .here)))) | exact .there (.there (.there (.there (.there (.there .here)))))) (.cons (by first | exact .here | exact .there .here | exact .there (.there .here) | exact .there (.there (.there .here)) | exact .there (.there (.there (.there .here))) | exact .there (.there (.there (.there (.there .here)))) | exact .there (.there (.there (.there (.there (.there .here)))))) .nil)) hG' | exact fin_new (.cons (by first | exact .here | exact .there .here | exact .there (.there .here) | exact .there (.there (.there .here)) | exact .there (.there (.there (.there .here))) | exact .there (.there (.there (.there (.there .here)))) | exact .there (.there (.there (.there (.there (.there .here)))))) (.cons (by first | exact .here | exact .there .here | exact .there (.there .here) | exact .there (.there (.there .here)) | exact .there (.there (.there (.there .here))) | exact .there (.there (.there (.there (.there .here)))) | exact .there (.there (.there (.there (.there (.there .here)))))) (.cons (by first | exact .here | exact .there .here | exact .there (.there .here) | exact .there (.there (.there .here)) | exact .there (.there (.there (.there .here))) | exact .there (.there (.there (.there (.there .here)))) | exact .there (.there (.there (.there (.there (.there .here)))))) .nil))) hG'
      · have hc : k = 4 ∨ k = 5 ∨ k = 6 ∨ k = 7 := by omega
        rcases hc with rfl | rfl | rfl | rfl
        all_goals refine fn_intro Try.func11 (by kernel_rfl) ?_
        all_goals repeat' ((conv => whnf); first
            | (refine call_fn (mark r g q cap s junk _ grp sl p v d hq hG) (.cons (by first | exact .here | exact .there .here | exact .there (.there .here) | exact .there (.there (.there .here)) | exact .there (.there (.there (.there .here))) | exact .there (.there (.there (.there (.there .here)))) | exact .there (.there (.there (.there (.there (.there .here)))))) (.cons (by first | exact .here | exact .there .here | exact .there (.there .here) | exact .there (.there (.there .here)) | exact .there (.there (.there (.there .here))) | exact .there (.there (.there (.there (.there .here)))) | exact .there (.there (.there (.there (.there (.there .here)))))) .nil)) (fun e A' hq' => ?_); obtain ⟨s', g', cap', junk', hG', h1, h2⟩ := hq'; subst h1; rcases h2 with ⟨rfl, rfl, rfl, rfl, rfl⟩ | rfl)
            | refine ld1_lit ?_
            | refine ldN_lit ?_
            | refine nw (fun n => ?_)
            | refine st_lit rfl ?_
            | refine need (by first | rfl | omega) ?_
            | (refine wr (fun z hz => ?_); (try rw [Int.tdiv_eq_ediv_of_nonneg (by omega)] at hz); rw [w64 (by omega) (by omega)] at hz; subst hz)
            | (refine zv (fun z hz => ?_); (try rw [Int.tmod_eq_emod_of_nonneg (by omega)] at hz); subst hz)
            | (refine ifs (fun h => ?_) (fun h => ?_) <;> (try (exfalso; first | omega | with_reducible contradiction | with_reducible exact h rfl))))
        all_goals (conv => whnf)
        all_goals first | exact fin_do (.cons (by first | exact .here | exact .there .here | exact .there (.there .here) | exact .there (.there (.there .here)) | exact .there (.there (.there (.there .here))) | exact .there (.there (.there (.there (.there .here)))) | exact .there (.there (.there (.there (.there (.there .here)))))) (.cons (by first | exact .here | exact .there .here | exact .there (.there .here) | exact .there (.there (.there .here)) | exact .there (.there (.there (.there .here))) | exact .there (.there (.there (.there (.there .here)))) | exact .there (.there (.there (.there (.there (.there .here)))))) .nil)) hG' | exact fin_new (.cons (by first | exact .here | exact .there .here | exact .there (.there .here) | exact .there (.there (.there .here)) | exact .there (.there (.there (.there .here))) | exact .there (.there (.there (.there (.there .here)))) | exact .there (.there (.there (.there (.there (.there .here)))))) (.cons (by first | exact .here | exact .there .here | exact .there (.there .here) | exact .there (.there (.there .here)) | exact .there (.there (.there (.there .here))) | exact .there (.there (.there (.there (.there .here)))) | exact .there (.there (.there (.there (.there (.there .here)))))) (.cons (by first | exact .here | exact .there .here | exact .there (.there .here) | exact .there (.there (.there .here)) | exact .there (.there (.there (.there .here))) | exact .there (.there (.there (.there (.there .here)))) | exact .there (.there (.there (.there (.there (.there .here)))))) .nil))) hG'
  · exact do_find r g q cap s junk k grp sl p v d hq hG hk
def DoW (r q : Nat) : Ending → List Blk → Prop := fun e A => ∃ s' g' cap' junk', Good q s' ∧ e = .returned (.tuple #[lv g' q cap', .bool true]) ∧ A = [tB r q s', lb g' q s' junk']
theorem do_ (r g q cap : Nat) (s : Nat → Sl10) (junk : List Value) (k grp sl p : Int) (v d : Bool) (hq : q ≤ 8) (hG : Good q s) :
    Fnc Try.prog 11 [pt r, lv g q cap, aV k grp sl p v d] [tB r q s, lb g q s junk] (DoW r q) := by
  refine Fnc_drop (doK r g q cap s junk k grp sl p v d hq hG) fun e A' hq' => ?_
  obtain ⟨s', g', cap', junk', hG', h1, h2⟩ := hq'
  rcases h2 with ⟨rfl, rfl, rfl, rfl, rfl⟩ | rfl
  · exact fin_all ⟨_, _, _, _, hG', h1, rfl⟩
  · exact fin_pick (.cons .here (.cons .here .nil)) ⟨_, _, _, _, hG', h1, rfl⟩
end Go.Proofs.Ytlmhagngbfcdkaa.Slots
