/- The law SlotsReads: what any bytes are as a table. -/
import Derived.Test.YtlmhagngbfcdkaaSl18
namespace Go.Proofs.Ytlmhagngbfcdkaa.Slots
open Go Ev Be
set_option linter.unusedVariables false
set_option linter.unusedSimpArgs false
set_option maxRecDepth 100000
attribute [local irreducible] rl tc bu biX rowI rowE rowS padE padS by1 pw full sBy cnt bt seenB seenL slB S48 cutS RA RB convert Builtin.copy_ Builtin.append_ Instr.makeSlice
theorem slotsReads (n : Int) (s : ByteArray) : Fnc Try.prog 6 [.int .i64 n, .string s] [] (Ret (.bool true) []) := by
  by_cases hn : n < 1 ∨ 8 < n
  · refine fn_intro Try.func6 (by kernel_rfl) ?_
    repeat' ((conv => whnf); first
        | refine call_val (read_out n s hn) ?_
        | refine call_val awake ?_
        | exact fin_all ⟨ret_bool rfl, rfl⟩
        | refine ld1_lit ?_
        | refine ldN_lit ?_
        | refine nw (fun n => ?_)
        | refine st_lit rfl ?_
        | refine need (by first | rfl | omega) ?_
        | (refine wr (fun z hz => ?_); (try rw [Int.tdiv_eq_ediv_of_nonneg (by omega)] at hz); rw [w64 (by omega) (by omega)] at hz; subst hz)
        | (refine zv (fun z hz => ?_); (try rw [Int.tmod_eq_emod_of_nonneg (by omega)] at hz); subst hz)
        | (refine ifs (fun h => ?_) (fun h => ?_) <;> (try (exfalso; first | omega | with_reducible contradiction | with_reducible exact h rfl)))
        | refine fin_nil ⟨?_, rfl⟩)
  obtain ⟨q, rfl⟩ := Int.eq_ofNat_of_zero_le (show 0 ≤ n by omega)
  have hq1 : 1 ≤ q := by omega
  have hq8 : q ≤ 8 := by omega
  by_cases h48 : s.size = 48
  · obtain ⟨c, rfl⟩ := S48_of h48
    have hiff := reads_iff (c := c) hq8
    rcases Classical.em (RA c q) with hR | hR
    · have hR2 := hR
      unfold RA at hR2
      have hG := right_good hR2.1
      have htc : tB 0 q (slB c) = tB 0 q (cutS c q) := by unfold tB; rw [right_tc hR2.1]
      have hby := bytes_same hq8 hG
      have hsb : sBy (cutS c q) = S48 c := by rw [← hR2.2]; exact (sBy_congr (cut_same (right_rest hR2.1))).symm
      refine fn_intro Try.func6 (by kernel_rfl) ?_
      repeat' ((conv => whnf); first
          | (refine call_fn (read_ c q hq1 hq8) .nil (fun e A' hq => ?_); rcases hq with ⟨_, r, rfl, rfl⟩ | ⟨hno, _⟩; rotate_left; exact absurd hR hno; (rw [show tB r q (slB c) = tB r q (cutS c q) by unfold tB; rw [right_tc hR2.1]]))
          | (refine call_fn (rread c q hq1 hq8) .nil (fun e A' hq => ?_); rcases hq with ⟨_, g, cap, junk, rfl, rfl⟩ | ⟨hno, _⟩; rotate_left; exact absurd (hiff.1 hR) hno)
          | refine call_val awake ?_
          | refine call_ret (same r g q cap (cutS c q) junk hq1 hq8 hG) (.cons (by first | exact .here | exact .there .here | exact .there (.there .here) | exact .there (.there (.there .here)) | exact .there (.there (.there (.there .here))) | exact .there (.there (.there (.there (.there .here)))) | exact .there (.there (.there (.there (.there (.there .here)))))) (.cons (by first | exact .here | exact .there .here | exact .there (.there .here) | exact .there (.there (.there .here)) | exact .there (.there (.there (.there .here))) | exact .there (.there (.there (.there (.there .here)))) | exact .there (.there (.there (.there (.there (.there .here)))))) .nil)) ?_
          | (refine call_ret (bytes r q (cutS c q) hG.2.1) (.cons (by first | exact .here | exact .there .here | exact .there (.there .here) | exact .there (.there (.there .here)) | exact .there (.there (.there (.there .here))) | exact .there (.there (.there (.there (.there .here)))) | exact .there (.there (.there (.there (.there (.there .here)))))) .nil) ?_; rw [hsb])
          | exact fin_nil ⟨ret_bool rfl, rfl⟩
          | refine ld1_lit ?_
          | refine ldN_lit ?_
          | refine nw (fun n => ?_)
          | refine st_lit rfl ?_
          | refine need (by first | rfl | omega) ?_
          | (refine wr (fun z hz => ?_); (try rw [Int.tdiv_eq_ediv_of_nonneg (by omega)] at hz); rw [w64 (by omega) (by omega)] at hz; subst hz)
          | (refine zv (fun z hz => ?_); (try rw [Int.tmod_eq_emod_of_nonneg (by omega)] at hz); subst hz)
          | (refine ifs (fun h => ?_) (fun h => ?_) <;> (try (exfalso; first | omega | with_reducible contradiction | with_reducible exact h rfl))))
    · refine fn_intro Try.func6 (by kernel_rfl) ?_
      repeat' ((conv => whnf); first
          | (refine call_fn (read_ c q hq1 hq8) .nil (fun e A' hq => ?_); rcases hq with ⟨hyes, _⟩ | ⟨_, rfl, rfl⟩; exact absurd hyes hR)
          | (refine call_fn (rread c q hq1 hq8) .nil (fun e A' hq => ?_); rcases hq with ⟨hyes, _⟩ | ⟨_, rfl, rfl⟩; exact absurd (hiff.2 hyes) hR)
          | refine call_val awake ?_
          | exact fin_all ⟨ret_bool rfl, rfl⟩
          | refine ld1_lit ?_
          | refine ldN_lit ?_
          | refine nw (fun n => ?_)
          | refine st_lit rfl ?_
          | refine need (by first | rfl | omega) ?_
          | (refine wr (fun z hz => ?_); (try rw [Int.tdiv_eq_ediv_of_nonneg (by omega)] at hz); rw [w64 (by omega) (by omega)] at hz; subst hz)
          | (refine zv (fun z hz => ?_); (try rw [Int.tmod_eq_emod_of_nonneg (by omega)] at hz); subst hz)
          | (refine ifs (fun h => ?_) (fun h => ?_) <;> (try (exfalso; first | omega | with_reducible contradiction | with_reducible exact h rfl)))
          | refine fin_nil ⟨?_, rfl⟩)
  · refine fn_intro Try.func6 (by kernel_rfl) ?_
    repeat' ((conv => whnf); first
        | refine call_val (read_form q hq1 hq8 s h48) ?_
        | refine call_val (rread_form q hq1 hq8 s h48) ?_
        | refine call_val awake ?_
        | exact fin_all ⟨ret_bool rfl, rfl⟩
        | refine ld1_lit ?_
        | refine ldN_lit ?_
        | refine nw (fun n => ?_)
        | refine st_lit rfl ?_
        | refine need (by first | rfl | omega) ?_
        | (refine wr (fun z hz => ?_); (try rw [Int.tdiv_eq_ediv_of_nonneg (by omega)] at hz); rw [w64 (by omega) (by omega)] at hz; subst hz)
        | (refine zv (fun z hz => ?_); (try rw [Int.tmod_eq_emod_of_nonneg (by omega)] at hz); subst hz)
        | (refine ifs (fun h => ?_) (fun h => ?_) <;> (try (exfalso; first | omega | with_reducible contradiction | with_reducible exact h rfl)))
        | refine fin_nil ⟨?_, rfl⟩)
end Go.Proofs.Ytlmhagngbfcdkaa.Slots
