/- The law's same. -/
import Derived.Test.YtlmhagngbfcdkaaSl8
namespace Go.Proofs.Ytlmhagngbfcdkaa.Slots
open Go Ev Be
set_option linter.unusedVariables false
set_option linter.unusedSimpArgs false
set_option maxRecDepth 100000
theorem fSl (x : Sl10) : Fits ([.int .i64] ++ List.replicate 8 .bool ++ [.int .i64]) (sc x) := by
  repeat' first | exact trivial | (refine ⟨⟨_, rfl⟩, ?_⟩)
theorem cnt_rest {p : Nat → Bool} {q : Nat} (h : ∀ j, q ≤ j → p j = false) : ∀ k, q ≤ k → cnt p k = cnt p q := by
  intro k
  induction k with
  | zero => intro hk; have : q = 0 := by omega
            rw [this]
  | succ k ih =>
    intro hk
    by_cases hq : q = k + 1
    · rw [hq]
    · rw [cnt_f (by rw [h k (by omega)]; simp)]
      exact ih (by omega)
theorem bL_rest {q : Nat} {s : Nat → Sl10} (h : ∀ j, q ≤ j → s j = freeS) : ∀ k, q ≤ k → bL s k = bL s q ++ List.replicate (4 * (k - q)) 0 := by
  intro k
  induction k with
  | zero => intro hk; have : q = 0 := by omega
            rw [this]; simp
  | succ k ih =>
    intro hk
    by_cases hq : q = k + 1
    · rw [hq]; simp
    · have e : bL s (k + 1) = bL s k ++ [0, 0, 0, 0] := by
        show List.map by1 (rowI s k ++ sNum (s k)) = _
        rw [List.map_append, h k (by omega)]
        have : List.map by1 (sNum freeS) = [0, 0, 0, 0] := by decide
        rw [this]
      rw [e, ih (by omega), List.append_assoc]
      congr 1
      rw [show 4 * (k + 1 - q) = 4 * (k - q) + 4 by omega, ← List.replicate_append_replicate]
      rfl
theorem bytes_same {q : Nat} {s : Nat → Sl10} (hq : q ≤ 8) (hG : Good q s) : sBy s = full (str (bL s q)) 48 := by
  have h8 := bL_rest hG.1 8 hq
  unfold sBy full
  rw [if_neg (by rw [Ev.str_size, bL_len]; omega), Ev.str_size, bL_len, str_append]
  show str (bL s 8 ++ _) = _
  rw [h8, List.append_assoc, List.replicate_append_replicate]
  congr 3
  omega
theorem busy_free {q : Nat} {s : Nat → Sl10} (hG : Good q s) : ∀ j, q ≤ j → busyB (s j) = false := fun j hj => by rw [hG.1 j hj]; rfl
theorem used_free {q : Nat} {s : Nat → Sl10} (hG : Good q s) : ∀ j, q ≤ j → usedB (s j) = false := fun j hj => by rw [hG.1 j hj]; rfl
attribute [local irreducible] rl tc bu biX rowI rowE rowS padE padS by1 pw full sBy cnt convert Builtin.copy_ Builtin.append_ Instr.makeSlice
set_option maxHeartbeats 4000000 in
theorem same (r g q cap : Nat) (s : Nat → Sl10) (junk : List Value) (hq1 : 1 ≤ q) (hq : q ≤ 8) (hG : Good q s) :
    Fnc Try.prog 12 [pt r, lv g q cap] [tB r q s, lb g q s junk] (Ret (.bool true) [tB r q s, lb g q s junk]) := by
  have hby := bytes_same hq hG
  have hc1 := cnt_rest (p := fun j => busyB (s j)) (busy_free hG) 8 hq
  have hc2 := cnt_rest (p := fun j => usedB (s j)) (used_free hG) 8 hq
  have hd := dirty r q s
  have hl := len_ r q s
  have hb := bytes r q s hG.2.1
  rw [hc1] at hd
  rw [hc2] at hl
  rw [hby] at hb
  refine fn_intro Try.func12 (by kernel_rfl) ?_
  repeat' ((conv => whnf); first
      | refine loop_rule [7, 5, 6] (fun vs M m => ∃ i : Nat, vs = [.int .i64 i, .int .i64 (cnt (fun j => busyB (s j)) i), .int .i64 (cnt (fun j => usedB (s j)) i)] ∧ i ≤ q ∧ m = q - i ∧ M = [tB r q s, lb g q s junk]) rfl ?_ ?_
      | refine ld1_lit ?_
      | refine ldN_lit ?_
      | refine nw (fun n => ?_)
      | refine st_lit rfl ?_
      | refine need (by first | rfl | omega) ?_
      | (refine wr (fun z hz => ?_); (try rw [Int.tdiv_eq_ediv_of_nonneg (by omega)] at hz); rw [w64 (by omega) (by omega)] at hz; subst hz)
      | (refine zv (fun z hz => ?_); (try rw [Int.tmod_eq_emod_of_nonneg (by omega)] at hz); subst hz)
      | (refine ifs (fun h => ?_) (fun h => ?_) <;> (try (exfalso; first | omega | with_reducible contradiction | with_reducible exact h rfl))))
  · exact fin_all ⟨_, 0, by unfold cnt; rfl, by omega, rfl, rfl⟩
  rintro vs junk1 M' m ⟨i, rfl, hi, rfl, rfl⟩
  have hk1 := cnt_le (fun j => busyB (s j)) i
  have hk2 := cnt_le (fun j => usedB (s j)) i
  by_cases hiq : i < q
  · rcases hbz : busyB (s i) with _ | _
    all_goals have hrb := rbusy (s i)
    all_goals rw [hbz] at hrb
    all_goals repeat' ((conv => whnf); first
        | refine call_ret (at_in r q i s (by omega) (by omega)) (.cons .here .nil) ?_
        | refine draw_quiet rfl (by kernel_rfl) ?_
        | refine qldN_lit ?_
        | (refine nv (fun z hz => ?_); (try simp at hz); replace hz := hz.symm; subst hz)
        | refine qldN_row (sc (s i)) (ll_part (by omega)) rfl ?_
        | refine ldN_row (sc (s i)) (ll_part (by omega)) rfl ?_
        | (refine qagg_neq kSl (by decide) rfl rfl rfl rfl (by kernel_rfl) (fSl _) (fSl _) ?_; refine ift rfl ?_)
        | refine call_val hrb ?_
        | refine ld1_row (v := .int .i64 (s i).g) (ll_get' (i := i) (k := 0) (by omega) (by omega) (by omega) rfl) ?_
        | refine ld1_lit ?_
        | refine ldN_lit ?_
        | refine nw (fun n => ?_)
        | refine st_lit rfl ?_
        | refine need (by first | rfl | omega) ?_
        | (refine wr (fun z hz => ?_); (try rw [Int.tdiv_eq_ediv_of_nonneg (by omega)] at hz); rw [w64 (by omega) (by omega)] at hz; subst hz)
        | (refine zv (fun z hz => ?_); (try rw [Int.tmod_eq_emod_of_nonneg (by omega)] at hz); subst hz)
        | (refine ifs (fun h => ?_) (fun h => ?_) <;> (try (exfalso; first | omega | with_reducible contradiction | with_reducible exact h rfl))))
    all_goals (conv => whnf)
    all_goals refine ⟨rfl, fin_pick (A' := [tB r q s, lb g q s junk]) (.cons (by first | exact .here | exact .there .here | exact .there (.there .here) | exact .there (.there (.there .here)) | exact .there (.there (.there (.there .here))) | exact .there (.there (.there (.there (.there .here)))) | exact .there (.there (.there (.there (.there (.there .here)))))) (.cons (by first | exact .here | exact .there .here | exact .there (.there .here) | exact .there (.there (.there .here)) | exact .there (.there (.there (.there .here))) | exact .there (.there (.there (.there (.there .here)))) | exact .there (.there (.there (.there (.there (.there .here)))))) .nil)) ⟨q - (i + 1), by omega, i + 1, ?_, by omega, rfl, rfl⟩⟩
    · rw [cnt_f (by rw [hbz]; simp), cnt_t (decide_eq_true (by assumption))]; rfl
    · rw [cnt_f (by rw [hbz]; simp), cnt_f (by unfold usedB; simp; omega)]; rfl
    · rw [cnt_t hbz, cnt_t (decide_eq_true (by assumption))]; rfl
    · rw [cnt_t hbz, cnt_f (by unfold usedB; simp; omega)]; rfl
  · obtain rfl : i = q := by omega
    repeat' ((conv => whnf); first
        | refine call_ret (at_out r i i s (by omega)) (.cons (by first | exact .here | exact .there .here | exact .there (.there .here) | exact .there (.there (.there .here)) | exact .there (.there (.there (.there .here))) | exact .there (.there (.there (.there (.there .here)))) | exact .there (.there (.there (.there (.there (.there .here)))))) .nil) ?_
        | refine call_ret (at_out r i (-1) s (by omega)) (.cons (by first | exact .here | exact .there .here | exact .there (.there .here) | exact .there (.there (.there .here)) | exact .there (.there (.there (.there .here))) | exact .there (.there (.there (.there (.there .here)))) | exact .there (.there (.there (.there (.there (.there .here)))))) .nil) ?_
        | refine call_ret hd (.cons (by first | exact .here | exact .there .here | exact .there (.there .here) | exact .there (.there (.there .here)) | exact .there (.there (.there (.there .here))) | exact .there (.there (.there (.there (.there .here)))) | exact .there (.there (.there (.there (.there (.there .here)))))) .nil) ?_
        | refine call_ret hl (.cons (by first | exact .here | exact .there .here | exact .there (.there .here) | exact .there (.there (.there .here)) | exact .there (.there (.there (.there .here))) | exact .there (.there (.there (.there (.there .here)))) | exact .there (.there (.there (.there (.there (.there .here)))))) .nil) ?_
        | refine call_ret hb (.cons (by first | exact .here | exact .there .here | exact .there (.there .here) | exact .there (.there (.there .here)) | exact .there (.there (.there (.there .here))) | exact .there (.there (.there (.there (.there .here)))) | exact .there (.there (.there (.there (.there (.there .here)))))) .nil) ?_
        | refine call_ret (rbytes g i cap s junk hq1 hq hG.2.1) (.cons (by first | exact .here | exact .there .here | exact .there (.there .here) | exact .there (.there (.there .here)) | exact .there (.there (.there (.there .here))) | exact .there (.there (.there (.there (.there .here)))) | exact .there (.there (.there (.there (.there (.there .here)))))) .nil) ?_
        | refine ld1_lit ?_
        | refine ldN_lit ?_
        | refine nw (fun n => ?_)
        | refine st_lit rfl ?_
        | refine need (by first | rfl | omega) ?_
        | (refine wr (fun z hz => ?_); (try rw [Int.tdiv_eq_ediv_of_nonneg (by omega)] at hz); rw [w64 (by omega) (by omega)] at hz; subst hz)
        | (refine zv (fun z hz => ?_); (try rw [Int.tmod_eq_emod_of_nonneg (by omega)] at hz); subst hz)
        | (refine ifs (fun h => ?_) (fun h => ?_) <;> (try (exfalso; first | omega | with_reducible contradiction | with_reducible exact h rfl))))
    all_goals (conv => whnf)
    exact fin_pick (A' := [tB r i s, lb g i s junk]) (.cons (by first | exact .here | exact .there .here | exact .there (.there .here) | exact .there (.there (.there .here)) | exact .there (.there (.there (.there .here))) | exact .there (.there (.there (.there (.there .here)))) | exact .there (.there (.there (.there (.there (.there .here)))))) (.cons (by first | exact .here | exact .there .here | exact .there (.there .here) | exact .there (.there (.there .here)) | exact .there (.there (.there (.there .here))) | exact .there (.there (.there (.there (.there .here)))) | exact .there (.there (.there (.there (.there (.there .here)))))) .nil)) ⟨rfl, rfl⟩
end Go.Proofs.Ytlmhagngbfcdkaa.Slots
