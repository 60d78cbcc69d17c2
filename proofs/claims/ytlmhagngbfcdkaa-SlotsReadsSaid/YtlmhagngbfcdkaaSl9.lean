/- The law's mark and do. -/
import Derived.Test.YtlmhagngbfcdkaaSl8
namespace Go.Proofs.Ytlmhagngbfcdkaa.Slots
open Go Ev Be
set_option linter.unusedVariables false
set_option linter.unusedSimpArgs false
set_option maxRecDepth 100000
abbrev aV (k grp sl p : Int) (v d : Bool) : Value := .agg #[.int .i64 k, .int .i64 grp, .int .i64 sl, .int .i64 p, .bool v, .bool d]
theorem ok_set {q i : Nat} {s : Nat → Sl10} (hG : Good q s) (hi : i < 8) (hg : ¬ (s i).g < 0) {p : Nat} {v d : Bool} (hvd : d = true → v = true) : okX s i (setD (setV (s i) p v) p d) := by
  refine ⟨hG.2.1 i hi, ⟨fun k hk hd => ?_, fun h => absurd h hg⟩, fun h0 j hj hji => hG.2.2.2 i j hi hj hji h0⟩
  change (if k = p then d else (s i).d k) = true at hd
  show (if k = p then v else (s i).v k) = true
  by_cases e : k = p
  · rw [if_pos e] at hd ⊢; exact hvd hd
  · rw [if_neg e] at hd ⊢; exact (hG.2.2.1 i hi).1 k hk hd
theorem ok_lv {q i : Nat} {s : Nat → Sl10} (hG : Good q s) (hi : i < 8) (hg : ¬ (s i).g < 0) {l : Int} (h0 : 0 ≤ l) (h4 : l < 4) : okX s i { (s i) with lv := l } := by
  refine ⟨?_, ⟨(hG.2.2.1 i hi).1, fun h => absurd h hg⟩, fun h0 j hj hji => hG.2.2.2 i j hi hj hji h0⟩
  have := hG.2.1 i hi
  unfold okS at *; simp only; omega
attribute [local irreducible] rl tc bu biX rowI rowE rowS padE padS by1 pw full convert Builtin.copy_ Builtin.append_ Instr.makeSlice
set_option maxHeartbeats 1000000 in
theorem mark_0ff (r g q cap : Nat) (s : Nat → Sl10) (junk : List Value) (k grp : Int) (i : Nat) (hq : q ≤ 8) (hG : Good q s) (hi : i < q) (hg : ¬ (s i).g < 0) (h7 : ¬ k = 7) :
    Fnc Try.prog 28 [pt r, lv g q cap, aV k grp i 0 false false] [tB r q s, lb g q s junk] (DoQ r q g cap s junk) := by
  have hm : Fnc Try.prog 17 [pt r, .int .i64 i, .int .i64 0, .bool false, .bool false] [tB r q s] (Ret (.int .i64 0) [tB r q (upd s i (setD (setV (s i) 0 false) 0 false))]) := mark_ok r q s hq i 0 false false hi (by omega) hg (by decide)
  refine fn_intro Try.func28 (by kernel_rfl) ?_
  repeat' ((conv => whnf); first
      | refine call_ret hm (.cons (by first | exact .here | exact .there .here | exact .there (.there .here) | exact .there (.there (.there .here)) | exact .there (.there (.there (.there .here))) | exact .there (.there (.there (.there (.there .here)))) | exact .there (.there (.there (.there (.there (.there .here)))))) .nil) ?_
      | (refine nv (fun z hz => ?_); (try simp at hz); replace hz := hz.symm; subst hz)
      | refine ld1_row (v := .int .i64 (s i).g) (ll_get' (i := i) (k := 0) (by omega) (by omega) (by omega) rfl) ?_
      | refine ldN_row (sc (s i)) (ll_part (by omega)) rfl ?_
      | (refine call_fn (rset g q cap i s junk (setD (setV (s i) 0 false) 0 false) hq (by omega)) (.cons (by first | exact .here | exact .there .here | exact .there (.there .here) | exact .there (.there (.there .here)) | exact .there (.there (.there (.there .here))) | exact .there (.there (.there (.there (.there .here)))) | exact .there (.there (.there (.there (.there (.there .here)))))) .nil) (fun e A' hq' => ?_); obtain ⟨g', cap', junk', h1, h2⟩ := hq'; subst h1; subst h2)
      | refine ld1_lit ?_
      | refine ldN_lit ?_
      | refine nw (fun n => ?_)
      | refine st_lit rfl ?_
      | refine need (by first | rfl | omega) ?_
      | (refine wr (fun z hz => ?_); (try rw [Int.tdiv_eq_ediv_of_nonneg (by omega)] at hz); rw [w64 (by omega) (by omega)] at hz; subst hz)
      | (refine zv (fun z hz => ?_); (try rw [Int.tmod_eq_emod_of_nonneg (by omega)] at hz); subst hz)
      | (refine ifs (fun h => ?_) (fun h => ?_) <;> (try (exfalso; first | omega | with_reducible contradiction | with_reducible exact h rfl))))
  all_goals (conv => whnf)
  exact fin_new (.cons (by first | exact .here | exact .there .here | exact .there (.there .here) | exact .there (.there (.there .here)) | exact .there (.there (.there (.there .here))) | exact .there (.there (.there (.there (.there .here)))) | exact .there (.there (.there (.there (.there (.there .here)))))) (.cons (by first | exact .here | exact .there .here | exact .there (.there .here) | exact .there (.there (.there .here)) | exact .there (.there (.there (.there .here))) | exact .there (.there (.there (.there (.there .here)))) | exact .there (.there (.there (.there (.there (.there .here)))))) (.cons (by first | exact .here | exact .there .here | exact .there (.there .here) | exact .there (.there (.there .here)) | exact .there (.there (.there (.there .here))) | exact .there (.there (.there (.there (.there .here)))) | exact .there (.there (.there (.there (.there (.there .here)))))) .nil))) (hG.upd hi (ok_set hG (by omega) hg (by decide)))
set_option maxHeartbeats 1000000 in
theorem mark_0tf (r g q cap : Nat) (s : Nat → Sl10) (junk : List Value) (k grp : Int) (i : Nat) (hq : q ≤ 8) (hG : Good q s) (hi : i < q) (hg : ¬ (s i).g < 0) (h7 : ¬ k = 7) :
    Fnc Try.prog 28 [pt r, lv g q cap, aV k grp i 0 true false] [tB r q s, lb g q s junk] (DoQ r q g cap s junk) := by
  have hm : Fnc Try.prog 17 [pt r, .int .i64 i, .int .i64 0, .bool true, .bool false] [tB r q s] (Ret (.int .i64 0) [tB r q (upd s i (setD (setV (s i) 0 true) 0 false))]) := mark_ok r q s hq i 0 true false hi (by omega) hg (by decide)
  refine fn_intro Try.func28 (by kernel_rfl) ?_
  repeat' ((conv => whnf); first
      | refine call_ret hm (.cons (by first | exact .here | exact .there .here | exact .there (.there .here) | exact .there (.there (.there .here)) | exact .there (.there (.there (.there .here))) | exact .there (.there (.there (.there (.there .here)))) | exact .there (.there (.there (.there (.there (.there .here)))))) .nil) ?_
      | (refine nv (fun z hz => ?_); (try simp at hz); replace hz := hz.symm; subst hz)
      | refine ld1_row (v := .int .i64 (s i).g) (ll_get' (i := i) (k := 0) (by omega) (by omega) (by omega) rfl) ?_
      | refine ldN_row (sc (s i)) (ll_part (by omega)) rfl ?_
      | (refine call_fn (rset g q cap i s junk (setD (setV (s i) 0 true) 0 false) hq (by omega)) (.cons (by first | exact .here | exact .there .here | exact .there (.there .here) | exact .there (.there (.there .here)) | exact .there (.there (.there (.there .here))) | exact .there (.there (.there (.there (.there .here)))) | exact .there (.there (.there (.there (.there (.there .here)))))) .nil) (fun e A' hq' => ?_); obtain ⟨g', cap', junk', h1, h2⟩ := hq'; subst h1; subst h2)
      | refine ld1_lit ?_
      | refine ldN_lit ?_
      | refine nw (fun n => ?_)
      | refine st_lit rfl ?_
      | refine need (by first | rfl | omega) ?_
      | (refine wr (fun z hz => ?_); (try rw [Int.tdiv_eq_ediv_of_nonneg (by omega)] at hz); rw [w64 (by omega) (by omega)] at hz; subst hz)
      | (refine zv (fun z hz => ?_); (try rw [Int.tmod_eq_emod_of_nonneg (by omega)] at hz); subst hz)
      | (refine ifs (fun h => ?_) (fun h => ?_) <;> (try (exfalso; first | omega | with_reducible contradiction | with_reducible exact h rfl))))
  all_goals (conv => whnf)
  exact fin_new (.cons (by first | exact .here | exact .there .here | exact .there (.there .here) | exact .there (.there (.there .here)) | exact .there (.there (.there (.there .here))) | exact .there (.there (.there (.there (.there .here)))) | exact .there (.there (.there (.there (.there (.there .here)))))) (.cons (by first | exact .here | exact .there .here | exact .there (.there .here) | exact .there (.there (.there .here)) | exact .there (.there (.there (.there .here))) | exact .there (.there (.there (.there (.there .here)))) | exact .there (.there (.there (.there (.there (.there .here)))))) (.cons (by first | exact .here | exact .there .here | exact .there (.there .here) | exact .there (.there (.there .here)) | exact .there (.there (.there (.there .here))) | exact .there (.there (.there (.there (.there .here)))) | exact .there (.there (.there (.there (.there (.there .here)))))) .nil))) (hG.upd hi (ok_set hG (by omega) hg (by decide)))
set_option maxHeartbeats 1000000 in
theorem mark_0tt (r g q cap : Nat) (s : Nat → Sl10) (junk : List Value) (k grp : Int) (i : Nat) (hq : q ≤ 8) (hG : Good q s) (hi : i < q) (hg : ¬ (s i).g < 0) (h7 : ¬ k = 7) :
    Fnc Try.prog 28 [pt r, lv g q cap, aV k grp i 0 true true] [tB r q s, lb g q s junk] (DoQ r q g cap s junk) := by
  have hm : Fnc Try.prog 17 [pt r, .int .i64 i, .int .i64 0, .bool true, .bool true] [tB r q s] (Ret (.int .i64 0) [tB r q (upd s i (setD (setV (s i) 0 true) 0 true))]) := mark_ok r q s hq i 0 true true hi (by omega) hg (by decide)
  refine fn_intro Try.func28 (by kernel_rfl) ?_
  repeat' ((conv => whnf); first
      | refine call_ret hm (.cons (by first | exact .here | exact .there .here | exact .there (.there .here) | exact .there (.there (.there .here)) | exact .there (.there (.there (.there .here))) | exact .there (.there (.there (.there (.there .here)))) | exact .there (.there (.there (.there (.there (.there .here)))))) .nil) ?_
      | (refine nv (fun z hz => ?_); (try simp at hz); replace hz := hz.symm; subst hz)
      | refine ld1_row (v := .int .i64 (s i).g) (ll_get' (i := i) (k := 0) (by omega) (by omega) (by omega) rfl) ?_
      | refine ldN_row (sc (s i)) (ll_part (by omega)) rfl ?_
      | (refine call_fn (rset g q cap i s junk (setD (setV (s i) 0 true) 0 true) hq (by omega)) (.cons (by first | exact .here | exact .there .here | exact .there (.there .here) | exact .there (.there (.there .here)) | exact .there (.there (.there (.there .here))) | exact .there (.there (.there (.there (.there .here)))) | exact .there (.there (.there (.there (.there (.there .here)))))) .nil) (fun e A' hq' => ?_); obtain ⟨g', cap', junk', h1, h2⟩ := hq'; subst h1; subst h2)
      | refine ld1_lit ?_
      | refine ldN_lit ?_
      | refine nw (fun n => ?_)
      | refine st_lit rfl ?_
      | refine need (by first | rfl | omega) ?_
      | (refine wr (fun z hz => ?_); (try rw [Int.tdiv_eq_ediv_of_nonneg (by omega)] at hz); rw [w64 (by omega) (by omega)] at hz; subst hz)
      | (refine zv (fun z hz => ?_); (try rw [Int.tmod_eq_emod_of_nonneg (by omega)] at hz); subst hz)
      | (refine ifs (fun h => ?_) (fun h => ?_) <;> (try (exfalso; first | omega | with_reducible contradiction | with_reducible exact h rfl))))
  all_goals (conv => whnf)
  exact fin_new (.cons (by first | exact .here | exact .there .here | exact .there (.there .here) | exact .there (.there (.there .here)) | exact .there (.there (.there (.there .here))) | exact .there (.there (.there (.there (.there .here)))) | exact .there (.there (.there (.there (.there (.there .here)))))) (.cons (by first | exact .here | exact .there .here | exact .there (.there .here) | exact .there (.there (.there .here)) | exact .there (.there (.there (.there .here))) | exact .there (.there (.there (.there (.there .here)))) | exact .there (.there (.there (.there (.there (.there .here)))))) (.cons (by first | exact .here | exact .there .here | exact .there (.there .here) | exact .there (.there (.there .here)) | exact .there (.there (.there (.there .here))) | exact .there (.there (.there (.there (.there .here)))) | exact .there (.there (.there (.there (.there (.there .here)))))) .nil))) (hG.upd hi (ok_set hG (by omega) hg (by decide)))
set_option maxHeartbeats 1000000 in
theorem mark_1ff (r g q cap : Nat) (s : Nat → Sl10) (junk : List Value) (k grp : Int) (i : Nat) (hq : q ≤ 8) (hG : Good q s) (hi : i < q) (hg : ¬ (s i).g < 0) (h7 : ¬ k = 7) :
    Fnc Try.prog 28 [pt r, lv g q cap, aV k grp i 1 false false] [tB r q s, lb g q s junk] (DoQ r q g cap s junk) := by
  have hm : Fnc Try.prog 17 [pt r, .int .i64 i, .int .i64 1, .bool false, .bool false] [tB r q s] (Ret (.int .i64 0) [tB r q (upd s i (setD (setV (s i) 1 false) 1 false))]) := mark_ok r q s hq i 1 false false hi (by omega) hg (by decide)
  refine fn_intro Try.func28 (by kernel_rfl) ?_
  repeat' ((conv => whnf); first
      | refine call_ret hm (.cons (by first | exact .here | exact .there .here | exact .there (.there .here) | exact .there (.there (.there .here)) | exact .there (.there (.there (.there .here))) | exact .there (.there (.there (.there (.there .here)))) | exact .there (.there (.there (.there (.there (.there .here)))))) .nil) ?_
      | (refine nv (fun z hz => ?_); (try simp at hz); replace hz := hz.symm; subst hz)
      | refine ld1_row (v := .int .i64 (s i).g) (ll_get' (i := i) (k := 0) (by omega) (by omega) (by omega) rfl) ?_
      | refine ldN_row (sc (s i)) (ll_part (by omega)) rfl ?_
      | (refine call_fn (rset g q cap i s junk (setD (setV (s i) 1 false) 1 false) hq (by omega)) (.cons (by first | exact .here | exact .there .here | exact .there (.there .here) | exact .there (.there (.there .here)) | exact .there (.there (.there (.there .here))) | exact .there (.there (.there (.there (.there .here)))) | exact .there (.there (.there (.there (.there (.there .here)))))) .nil) (fun e A' hq' => ?_); obtain ⟨g', cap', junk', h1, h2⟩ := hq'; subst h1; subst h2)
      | refine ld1_lit ?_
      | refine ldN_lit ?_
      | refine nw (fun n => ?_)
      | refine st_lit rfl ?_
      | refine need (by first | rfl | omega) ?_
      | (refine wr (fun z hz => ?_); (try rw [Int.tdiv_eq_ediv_of_nonneg (by omega)] at hz); rw [w64 (by omega) (by omega)] at hz; subst hz)
      | (refine zv (fun z hz => ?_); (try rw [Int.tmod_eq_emod_of_nonneg (by omega)] at hz); subst hz)
      | (refine ifs (fun h => ?_) (fun h => ?_) <;> (try (exfalso; first | omega | with_reducible contradiction | with_reducible exact h rfl))))
  all_goals (conv => whnf)
  exact fin_new (.cons (by first | exact .here | exact .there .here | exact .there (.there .here) | exact .there (.there (.there .here)) | exact .there (.there (.there (.there .here))) | exact .there (.there (.there (.there (.there .here)))) | exact .there (.there (.there (.there (.there (.there .here)))))) (.cons (by first | exact .here | exact .there .here | exact .there (.there .here) | exact .there (.there (.there .here)) | exact .there (.there (.there (.there .here))) | exact .there (.there (.there (.there (.there .here)))) | exact .there (.there (.there (.there (.there (.there .here)))))) (.cons (by first | exact .here | exact .there .here | exact .there (.there .here) | exact .there (.there (.there .here)) | exact .there (.there (.there (.there .here))) | exact .there (.there (.there (.there (.there .here)))) | exact .there (.there (.there (.there (.there (.there .here)))))) .nil))) (hG.upd hi (ok_set hG (by omega) hg (by decide)))
set_option maxHeartbeats 1000000 in
theorem mark_1tf (r g q cap : Nat) (s : Nat → Sl10) (junk : List Value) (k grp : Int) (i : Nat) (hq : q ≤ 8) (hG : Good q s) (hi : i < q) (hg : ¬ (s i).g < 0) (h7 : ¬ k = 7) :
    Fnc Try.prog 28 [pt r, lv g q cap, aV k grp i 1 true false] [tB r q s, lb g q s junk] (DoQ r q g cap s junk) := by
  have hm : Fnc Try.prog 17 [pt r, .int .i64 i, .int .i64 1, .bool true, .bool false] [tB r q s] (Ret (.int .i64 0) [tB r q (upd s i (setD (setV (s i) 1 true) 1 false))]) := mark_ok r q s hq i 1 true false hi (by omega) hg (by decide)
  refine fn_intro Try.func28 (by kernel_rfl) ?_
  repeat' ((conv => whnf); first
      | refine call_ret hm (.cons (by first | exact .here | exact .there .here | exact .there (.there .here) | exact .there (.there (.there .here)) | exact .there (.there (.there (.there .here))) | exact .there (.there (.there (.there (.there .here)))) | exact .there (.there (.there (.there (.there (.there .here)))))) .nil) ?_
      | (refine nv (fun z hz => ?_); (try simp at hz); replace hz := hz.symm; subst hz)
      | refine ld1_row (v := .int .i64 (s i).g) (ll_get' (i := i) (k := 0) (by omega) (by omega) (by omega) rfl) ?_
      | refine ldN_row (sc (s i)) (ll_part (by omega)) rfl ?_
      | (refine call_fn (rset g q cap i s junk (setD (setV (s i) 1 true) 1 false) hq (by omega)) (.cons (by first | exact .here | exact .there .here | exact .there (.there .here) | exact .there (.there (.there .here)) | exact .there (.there (.there (.there .here))) | exact .there (.there (.there (.there (.there .here)))) | exact .there (.there (.there (.there (.there (.there .here)))))) .nil) (fun e A' hq' => ?_); obtain ⟨g', cap', junk', h1, h2⟩ := hq'; subst h1; subst h2)
      | refine ld1_lit ?_
      | refine ldN_lit ?_
      | refine nw (fun n => ?_)
      | refine st_lit rfl ?_
      | refine need (by first | rfl | omega) ?_
      | (refine wr (fun z hz => ?_); (try rw [Int.tdiv_eq_ediv_of_nonneg (by omega)] at hz); rw [w64 (by omega) (by omega)] at hz; subst hz)
      | (refine zv (fun z hz => ?_); (try rw [Int.tmod_eq_emod_of_nonneg (by omega)] at hz); subst hz)
      | (refine ifs (fun h => ?_) (fun h => ?_) <;> (try (exfalso; first | omega | with_reducible contradiction | with_reducible exact h rfl))))
  all_goals (conv => whnf)
  exact fin_new (.cons (by first | exact .here | exact .there .here | exact .there (.there .here) | exact .there (.there (.there .here)) | exact .there (.there (.there (.there .here))) | exact .there (.there (.there (.there (.there .here)))) | exact .there (.there (.there (.there (.there (.there .here)))))) (.cons (by first | exact .here | exact .there .here | exact .there (.there .here) | exact .there (.there (.there .here)) | exact .there (.there (.there (.there .here))) | exact .there (.there (.there (.there (.there .here)))) | exact .there (.there (.there (.there (.there (.there .here)))))) (.cons (by first | exact .here | exact .there .here | exact .there (.there .here) | exact .there (.there (.there .here)) | exact .there (.there (.there (.there .here))) | exact .there (.there (.there (.there (.there .here)))) | exact .there (.there (.there (.there (.there (.there .here)))))) .nil))) (hG.upd hi (ok_set hG (by omega) hg (by decide)))
set_option maxHeartbeats 1000000 in
theorem mark_1tt (r g q cap : Nat) (s : Nat → Sl10) (junk : List Value) (k grp : Int) (i : Nat) (hq : q ≤ 8) (hG : Good q s) (hi : i < q) (hg : ¬ (s i).g < 0) (h7 : ¬ k = 7) :
    Fnc Try.prog 28 [pt r, lv g q cap, aV k grp i 1 true true] [tB r q s, lb g q s junk] (DoQ r q g cap s junk) := by
  have hm : Fnc Try.prog 17 [pt r, .int .i64 i, .int .i64 1, .bool true, .bool true] [tB r q s] (Ret (.int .i64 0) [tB r q (upd s i (setD (setV (s i) 1 true) 1 true))]) := mark_ok r q s hq i 1 true true hi (by omega) hg (by decide)
  refine fn_intro Try.func28 (by kernel_rfl) ?_
  repeat' ((conv => whnf); first
      | refine call_ret hm (.cons (by first | exact .here | exact .there .here | exact .there (.there .here) | exact .there (.there (.there .here)) | exact .there (.there (.there (.there .here))) | exact .there (.there (.there (.there (.there .here)))) | exact .there (.there (.there (.there (.there (.there .here)))))) .nil) ?_
      | (refine nv (fun z hz => ?_); (try simp at hz); replace hz := hz.symm; subst hz)
      | refine ld1_row (v := .int .i64 (s i).g) (ll_get' (i := i) (k := 0) (by omega) (by omega) (by omega) rfl) ?_
      | refine ldN_row (sc (s i)) (ll_part (by omega)) rfl ?_
      | (refine call_fn (rset g q cap i s junk (setD (setV (s i) 1 true) 1 true) hq (by omega)) (.cons (by first | exact .here | exact .there .here | exact .there (.there .here) | exact .there (.there (.there .here)) | exact .there (.there (.there (.there .here))) | exact .there (.there (.there (.there (.there .here)))) | exact .there (.there (.there (.there (.there (.there .here)))))) .nil) (fun e A' hq' => ?_); obtain ⟨g', cap', junk', h1, h2⟩ := hq'; subst h1; subst h2)
      | refine ld1_lit ?_
      | refine ldN_lit ?_
      | refine nw (fun n => ?_)
      | refine st_lit rfl ?_
      | refine need (by first | rfl | omega) ?_
      | (refine wr (fun z hz => ?_); (try rw [Int.tdiv_eq_ediv_of_nonneg (by omega)] at hz); rw [w64 (by omega) (by omega)] at hz; subst hz)
      | (refine zv (fun z hz => ?_); (try rw [Int.tmod_eq_emod_of_nonneg (by omega)] at hz); subst hz)
      | (refine ifs (fun h => ?_) (fun h => ?_) <;> (try (exfalso; first | omega | with_reducible contradiction | with_reducible exact h rfl))))
  all_goals (conv => whnf)
  exact fin_new (.cons (by first | exact .here | exact .there .here | exact .there (.there .here) | exact .there (.there (.there .here)) | exact .there (.there (.there (.there .here))) | exact .there (.there (.there (.there (.there .here)))) | exact .there (.there (.there (.there (.there (.there .here)))))) (.cons (by first | exact .here | exact .there .here | exact .there (.there .here) | exact .there (.there (.there .here)) | exact .there (.there (.there (.there .here))) | exact .there (.there (.there (.there (.there .here)))) | exact .there (.there (.there (.there (.there (.there .here)))))) (.cons (by first | exact .here | exact .there .here | exact .there (.there .here) | exact .there (.there (.there .here)) | exact .there (.there (.there (.there .here))) | exact .there (.there (.there (.there (.there .here)))) | exact .there (.there (.there (.there (.there (.there .here)))))) .nil))) (hG.upd hi (ok_set hG (by omega) hg (by decide)))
set_option maxHeartbeats 1000000 in
theorem mark_2ff (r g q cap : Nat) (s : Nat → Sl10) (junk : List Value) (k grp : Int) (i : Nat) (hq : q ≤ 8) (hG : Good q s) (hi : i < q) (hg : ¬ (s i).g < 0) (h7 : ¬ k = 7) :
    Fnc Try.prog 28 [pt r, lv g q cap, aV k grp i 2 false false] [tB r q s, lb g q s junk] (DoQ r q g cap s junk) := by
  have hm : Fnc Try.prog 17 [pt r, .int .i64 i, .int .i64 2, .bool false, .bool false] [tB r q s] (Ret (.int .i64 0) [tB r q (upd s i (setD (setV (s i) 2 false) 2 false))]) := mark_ok r q s hq i 2 false false hi (by omega) hg (by decide)
  refine fn_intro Try.func28 (by kernel_rfl) ?_
  repeat' ((conv => whnf); first
      | refine call_ret hm (.cons (by first | exact .here | exact .there .here | exact .there (.there .here) | exact .there (.there (.there .here)) | exact .there (.there (.there (.there .here))) | exact .there (.there (.there (.there (.there .here)))) | exact .there (.there (.there (.there (.there (.there .here)))))) .nil) ?_
      | (refine nv (fun z hz => ?_); (try simp at hz); replace hz := hz.symm; subst hz)
      | refine ld1_row (v := .int .i64 (s i).g) (ll_get' (i := i) (k := 0) (by omega) (by omega) (by omega) rfl) ?_
      | refine ldN_row (sc (s i)) (ll_part (by omega)) rfl ?_
      | (refine call_fn (rset g q cap i s junk (setD (setV (s i) 2 false) 2 false) hq (by omega)) (.cons (by first | exact .here | exact .there .here | exact .there (.there .here) | exact .there (.there (.there .here)) | exact .there (.there (.there (.there .here))) | exact .there (.there (.there (.there (.there .here)))) | exact .there (.there (.there (.there (.there (.there .here)))))) .nil) (fun e A' hq' => ?_); obtain ⟨g', cap', junk', h1, h2⟩ := hq'; subst h1; subst h2)
      | refine ld1_lit ?_
      | refine ldN_lit ?_
      | refine nw (fun n => ?_)
      | refine st_lit rfl ?_
      | refine need (by first | rfl | omega) ?_
      | (refine wr (fun z hz => ?_); (try rw [Int.tdiv_eq_ediv_of_nonneg (by omega)] at hz); rw [w64 (by omega) (by omega)] at hz; subst hz)
      | (refine zv (fun z hz => ?_); (try rw [Int.tmod_eq_emod_of_nonneg (by omega)] at hz); subst hz)
      | (refine ifs (fun h => ?_) (fun h => ?_) <;> (try (exfalso; first | omega | with_reducible contradiction | with_reducible exact h rfl))))
  all_goals (conv => whnf)
  exact fin_new (.cons (by first | exact .here | exact .there .here | exact .there (.there .here) | exact .there (.there (.there .here)) | exact .there (.there (.there (.there .here))) | exact .there (.there (.there (.there (.there .here)))) | exact .there (.there (.there (.there (.there (.there .here)))))) (.cons (by first | exact .here | exact .there .here | exact .there (.there .here) | exact .there (.there (.there .here)) | exact .there (.there (.there (.there .here))) | exact .there (.there (.there (.there (.there .here)))) | exact .there (.there (.there (.there (.there (.there .here)))))) (.cons (by first | exact .here | exact .there .here | exact .there (.there .here) | exact .there (.there (.there .here)) | exact .there (.there (.there (.there .here))) | exact .there (.there (.there (.there (.there .here)))) | exact .there (.there (.there (.there (.there (.there .here)))))) .nil))) (hG.upd hi (ok_set hG (by omega) hg (by decide)))
set_option maxHeartbeats 1000000 in
theorem mark_2tf (r g q cap : Nat) (s : Nat → Sl10) (junk : List Value) (k grp : Int) (i : Nat) (hq : q ≤ 8) (hG : Good q s) (hi : i < q) (hg : ¬ (s i).g < 0) (h7 : ¬ k = 7) :
    Fnc Try.prog 28 [pt r, lv g q cap, aV k grp i 2 true false] [tB r q s, lb g q s junk] (DoQ r q g cap s junk) := by
  have hm : Fnc Try.prog 17 [pt r, .int .i64 i, .int .i64 2, .bool true, .bool false] [tB r q s] (Ret (.int .i64 0) [tB r q (upd s i (setD (setV (s i) 2 true) 2 false))]) := mark_ok r q s hq i 2 true false hi (by omega) hg (by decide)
  refine fn_intro Try.func28 (by kernel_rfl) ?_
  repeat' ((conv => whnf); first
      | refine call_ret hm (.cons (by first | exact .here | exact .there .here | exact .there (.there .here) | exact .there (.there (.there .here)) | exact .there (.there (.there (.there .here))) | exact .there (.there (.there (.there (.there .here)))) | exact .there (.there (.there (.there (.there (.there .here)))))) .nil) ?_
      | (refine nv (fun z hz => ?_); (try simp at hz); replace hz := hz.symm; subst hz)
      | refine ld1_row (v := .int .i64 (s i).g) (ll_get' (i := i) (k := 0) (by omega) (by omega) (by omega) rfl) ?_
      | refine ldN_row (sc (s i)) (ll_part (by omega)) rfl ?_
      | (refine call_fn (rset g q cap i s junk (setD (setV (s i) 2 true) 2 false) hq (by omega)) (.cons (by first | exact .here | exact .there .here | exact .there (.there .here) | exact .there (.there (.there .here)) | exact .there (.there (.there (.there .here))) | exact .there (.there (.there (.there (.there .here)))) | exact .there (.there (.there (.there (.there (.there .here)))))) .nil) (fun e A' hq' => ?_); obtain ⟨g', cap', junk', h1, h2⟩ := hq'; subst h1; subst h2)
      | refine ld1_lit ?_
      | refine ldN_lit ?_
      | refine nw (fun n => ?_)
      | refine st_lit rfl ?_
      | refine need (by first | rfl | omega) ?_
      | (refine wr (fun z hz => ?_); (try rw [Int.tdiv_eq_ediv_of_nonneg (by omega)] at hz); rw [w64 (by omega) (by omega)] at hz; subst hz)
      | (refine zv (fun z hz => ?_); (try rw [Int.tmod_eq_emod_of_nonneg (by omega)] at hz); subst hz)
      | (refine ifs (fun h => ?_) (fun h => ?_) <;> (try (exfalso; first | omega | with_reducible contradiction | with_reducible exact h rfl))))
  all_goals (conv => whnf)
  exact fin_new (.cons (by first | exact .here | exact .there .here | exact .there (.there .here) | exact .there (.there (.there .here)) | exact .there (.there (.there (.there .here))) | exact .there (.there (.there (.there (.there .here)))) | exact .there (.there (.there (.there (.there (.there .here)))))) (.cons (by first | exact .here | exact .there .here | exact .there (.there .here) | exact .there (.there (.there .here)) | exact .there (.there (.there (.there .here))) | exact .there (.there (.there (.there (.there .here)))) | exact .there (.there (.there (.there (.there (.there .here)))))) (.cons (by first | exact .here | exact .there .here | exact .there (.there .here) | exact .there (.there (.there .here)) | exact .there (.there (.there (.there .here))) | exact .there (.there (.there (.there (.there .here)))) | exact .there (.there (.there (.there (.there (.there .here)))))) .nil))) (hG.upd hi (ok_set hG (by omega) hg (by decide)))
set_option maxHeartbeats 1000000 in
theorem mark_2tt (r g q cap : Nat) (s : Nat → Sl10) (junk : List Value) (k grp : Int) (i : Nat) (hq : q ≤ 8) (hG : Good q s) (hi : i < q) (hg : ¬ (s i).g < 0) (h7 : ¬ k = 7) :
    Fnc Try.prog 28 [pt r, lv g q cap, aV k grp i 2 true true] [tB r q s, lb g q s junk] (DoQ r q g cap s junk) := by
  have hm : Fnc Try.prog 17 [pt r, .int .i64 i, .int .i64 2, .bool true, .bool true] [tB r q s] (Ret (.int .i64 0) [tB r q (upd s i (setD (setV (s i) 2 true) 2 true))]) := mark_ok r q s hq i 2 true true hi (by omega) hg (by decide)
  refine fn_intro Try.func28 (by kernel_rfl) ?_
  repeat' ((conv => whnf); first
      | refine call_ret hm (.cons (by first | exact .here | exact .there .here | exact .there (.there .here) | exact .there (.there (.there .here)) | exact .there (.there (.there (.there .here))) | exact .there (.there (.there (.there (.there .here)))) | exact .there (.there (.there (.there (.there (.there .here)))))) .nil) ?_
      | (refine nv (fun z hz => ?_); (try simp at hz); replace hz := hz.symm; subst hz)
      | refine ld1_row (v := .int .i64 (s i).g) (ll_get' (i := i) (k := 0) (by omega) (by omega) (by omega) rfl) ?_
      | refine ldN_row (sc (s i)) (ll_part (by omega)) rfl ?_
      | (refine call_fn (rset g q cap i s junk (setD (setV (s i) 2 true) 2 true) hq (by omega)) (.cons (by first | exact .here | exact .there .here | exact .there (.there .here) | exact .there (.there (.there .here)) | exact .there (.there (.there (.there .here))) | exact .there (.there (.there (.there (.there .here)))) | exact .there (.there (.there (.there (.there (.there .here)))))) .nil) (fun e A' hq' => ?_); obtain ⟨g', cap', junk', h1, h2⟩ := hq'; subst h1; subst h2)
      | refine ld1_lit ?_
      | refine ldN_lit ?_
      | refine nw (fun n => ?_)
      | refine st_lit rfl ?_
      | refine need (by first | rfl | omega) ?_
      | (refine wr (fun z hz => ?_); (try rw [Int.tdiv_eq_ediv_of_nonneg (by omega)] at hz); rw [w64 (by omega) (by omega)] at hz; subst hz)
      | (refine zv (fun z hz => ?_); (try rw [Int.tmod_eq_emod_of_nonneg (by omega)] at hz); subst hz)
      | (refine ifs (fun h => ?_) (fun h => ?_) <;> (try (exfalso; first | omega | with_reducible contradiction | with_reducible exact h rfl))))
  all_goals (conv => whnf)
  exact fin_new (.cons (by first | exact .here | exact .there .here | exact .there (.there .here) | exact .there (.there (.there .here)) | exact .there (.there (.there (.there .here))) | exact .there (.there (.there (.there (.there .here)))) | exact .there (.there (.there (.there (.there (.there .here)))))) (.cons (by first | exact .here | exact .there .here | exact .there (.there .here) | exact .there (.there (.there .here)) | exact .there (.there (.there (.there .here))) | exact .there (.there (.there (.there (.there .here)))) | exact .there (.there (.there (.there (.there (.there .here)))))) (.cons (by first | exact .here | exact .there .here | exact .there (.there .here) | exact .there (.there (.there .here)) | exact .there (.there (.there (.there .here))) | exact .there (.there (.there (.there (.there .here)))) | exact .there (.there (.there (.there (.there (.there .here)))))) .nil))) (hG.upd hi (ok_set hG (by omega) hg (by decide)))
set_option maxHeartbeats 1000000 in
theorem mark_3ff (r g q cap : Nat) (s : Nat → Sl10) (junk : List Value) (k grp : Int) (i : Nat) (hq : q ≤ 8) (hG : Good q s) (hi : i < q) (hg : ¬ (s i).g < 0) (h7 : ¬ k = 7) :
    Fnc Try.prog 28 [pt r, lv g q cap, aV k grp i 3 false false] [tB r q s, lb g q s junk] (DoQ r q g cap s junk) := by
  have hm : Fnc Try.prog 17 [pt r, .int .i64 i, .int .i64 3, .bool false, .bool false] [tB r q s] (Ret (.int .i64 0) [tB r q (upd s i (setD (setV (s i) 3 false) 3 false))]) := mark_ok r q s hq i 3 false false hi (by omega) hg (by decide)
  refine fn_intro Try.func28 (by kernel_rfl) ?_
  repeat' ((conv => whnf); first
      | refine call_ret hm (.cons (by first | exact .here | exact .there .here | exact .there (.there .here) | exact .there (.there (.there .here)) | exact .there (.there (.there (.there .here))) | exact .there (.there (.there (.there (.there .here)))) | exact .there (.there (.there (.there (.there (.there .here)))))) .nil) ?_
      | (refine nv (fun z hz => ?_); (try simp at hz); replace hz := hz.symm; subst hz)
      | refine ld1_row (v := .int .i64 (s i).g) (ll_get' (i := i) (k := 0) (by omega) (by omega) (by omega) rfl) ?_
      | refine ldN_row (sc (s i)) (ll_part (by omega)) rfl ?_
      | (refine call_fn (rset g q cap i s junk (setD (setV (s i) 3 false) 3 false) hq (by omega)) (.cons (by first | exact .here | exact .there .here | exact .there (.there .here) | exact .there (.there (.there .here)) | exact .there (.there (.there (.there .here))) | exact .there (.there (.there (.there (.there .here)))) | exact .there (.there (.there (.there (.there (.there .here)))))) .nil) (fun e A' hq' => ?_); obtain ⟨g', cap', junk', h1, h2⟩ := hq'; subst h1; subst h2)
      | refine ld1_lit ?_
      | refine ldN_lit ?_
      | refine nw (fun n => ?_)
      | refine st_lit rfl ?_
      | refine need (by first | rfl | omega) ?_
      | (refine wr (fun z hz => ?_); (try rw [Int.tdiv_eq_ediv_of_nonneg (by omega)] at hz); rw [w64 (by omega) (by omega)] at hz; subst hz)
      | (refine zv (fun z hz => ?_); (try rw [Int.tmod_eq_emod_of_nonneg (by omega)] at hz); subst hz)
      | (refine ifs (fun h => ?_) (fun h => ?_) <;> (try (exfalso; first | omega | with_reducible contradiction | with_reducible exact h rfl))))
  all_goals (conv => whnf)
  exact fin_new (.cons (by first | exact .here | exact .there .here | exact .there (.there .here) | exact .there (.there (.there .here)) | exact .there (.there (.there (.there .here))) | exact .there (.there (.there (.there (.there .here)))) | exact .there (.there (.there (.there (.there (.there .here)))))) (.cons (by first | exact .here | exact .there .here | exact .there (.there .here) | exact .there (.there (.there .here)) | exact .there (.there (.there (.there .here))) | exact .there (.there (.there (.there (.there .here)))) | exact .there (.there (.there (.there (.there (.there .here)))))) (.cons (by first | exact .here | exact .there .here | exact .there (.there .here) | exact .there (.there (.there .here)) | exact .there (.there (.there (.there .here))) | exact .there (.there (.there (.there (.there .here)))) | exact .there (.there (.there (.there (.there (.there .here)))))) .nil))) (hG.upd hi (ok_set hG (by omega) hg (by decide)))
set_option maxHeartbeats 1000000 in
theorem mark_3tf (r g q cap : Nat) (s : Nat → Sl10) (junk : List Value) (k grp : Int) (i : Nat) (hq : q ≤ 8) (hG : Good q s) (hi : i < q) (hg : ¬ (s i).g < 0) (h7 : ¬ k = 7) :
    Fnc Try.prog 28 [pt r, lv g q cap, aV k grp i 3 true false] [tB r q s, lb g q s junk] (DoQ r q g cap s junk) := by
  have hm : Fnc Try.prog 17 [pt r, .int .i64 i, .int .i64 3, .bool true, .bool false] [tB r q s] (Ret (.int .i64 0) [tB r q (upd s i (setD (setV (s i) 3 true) 3 false))]) := mark_ok r q s hq i 3 true false hi (by omega) hg (by decide)
  refine fn_intro Try.func28 (by kernel_rfl) ?_
  repeat' ((conv => whnf); first
      | refine call_ret hm (.cons (by first | exact .here | exact .there .here | exact .there (.there .here) | exact .there (.there (.there .here)) | exact .there (.there (.there (.there .here))) | exact .there (.there (.there (.there (.there .here)))) | exact .there (.there (.there (.there (.there (.there .here)))))) .nil) ?_
      | (refine nv (fun z hz => ?_); (try simp at hz); replace hz := hz.symm; subst hz)
      | refine ld1_row (v := .int .i64 (s i).g) (ll_get' (i := i) (k := 0) (by omega) (by omega) (by omega) rfl) ?_
      | refine ldN_row (sc (s i)) (ll_part (by omega)) rfl ?_
      | (refine call_fn (rset g q cap i s junk (setD (setV (s i) 3 true) 3 false) hq (by omega)) (.cons (by first | exact .here | exact .there .here | exact .there (.there .here) | exact .there (.there (.there .here)) | exact .there (.there (.there (.there .here))) | exact .there (.there (.there (.there (.there .here)))) | exact .there (.there (.there (.there (.there (.there .here)))))) .nil) (fun e A' hq' => ?_); obtain ⟨g', cap', junk', h1, h2⟩ := hq'; subst h1; subst h2)
      | refine ld1_lit ?_
      | refine ldN_lit ?_
      | refine nw (fun n => ?_)
      | refine st_lit rfl ?_
      | refine need (by first | rfl | omega) ?_
      | (refine wr (fun z hz => ?_); (try rw [Int.tdiv_eq_ediv_of_nonneg (by omega)] at hz); rw [w64 (by omega) (by omega)] at hz; subst hz)
      | (refine zv (fun z hz => ?_); (try rw [Int.tmod_eq_emod_of_nonneg (by omega)] at hz); subst hz)
      | (refine ifs (fun h => ?_) (fun h => ?_) <;> (try (exfalso; first | omega | with_reducible contradiction | with_reducible exact h rfl))))
  all_goals (conv => whnf)
  exact fin_new (.cons (by first | exact .here | exact .there .here | exact .there (.there .here) | exact .there (.there (.there .here)) | exact .there (.there (.there (.there .here))) | exact .there (.there (.there (.there (.there .here)))) | exact .there (.there (.there (.there (.there (.there .here)))))) (.cons (by first | exact .here | exact .there .here | exact .there (.there .here) | exact .there (.there (.there .here)) | exact .there (.there (.there (.there .here))) | exact .there (.there (.there (.there (.there .here)))) | exact .there (.there (.there (.there (.there (.there .here)))))) (.cons (by first | exact .here | exact .there .here | exact .there (.there .here) | exact .there (.there (.there .here)) | exact .there (.there (.there (.there .here))) | exact .there (.there (.there (.there (.there .here)))) | exact .there (.there (.there (.there (.there (.there .here)))))) .nil))) (hG.upd hi (ok_set hG (by omega) hg (by decide)))
set_option maxHeartbeats 1000000 in
theorem mark_3tt (r g q cap : Nat) (s : Nat → Sl10) (junk : List Value) (k grp : Int) (i : Nat) (hq : q ≤ 8) (hG : Good q s) (hi : i < q) (hg : ¬ (s i).g < 0) (h7 : ¬ k = 7) :
    Fnc Try.prog 28 [pt r, lv g q cap, aV k grp i 3 true true] [tB r q s, lb g q s junk] (DoQ r q g cap s junk) := by
  have hm : Fnc Try.prog 17 [pt r, .int .i64 i, .int .i64 3, .bool true, .bool true] [tB r q s] (Ret (.int .i64 0) [tB r q (upd s i (setD (setV (s i) 3 true) 3 true))]) := mark_ok r q s hq i 3 true true hi (by omega) hg (by decide)
  refine fn_intro Try.func28 (by kernel_rfl) ?_
  repeat' ((conv => whnf); first
      | refine call_ret hm (.cons (by first | exact .here | exact .there .here | exact .there (.there .here) | exact .there (.there (.there .here)) | exact .there (.there (.there (.there .here))) | exact .there (.there (.there (.there (.there .here)))) | exact .there (.there (.there (.there (.there (.there .here)))))) .nil) ?_
      | (refine nv (fun z hz => ?_); (try simp at hz); replace hz := hz.symm; subst hz)
      | refine ld1_row (v := .int .i64 (s i).g) (ll_get' (i := i) (k := 0) (by omega) (by omega) (by omega) rfl) ?_
      | refine ldN_row (sc (s i)) (ll_part (by omega)) rfl ?_
      | (refine call_fn (rset g q cap i s junk (setD (setV (s i) 3 true) 3 true) hq (by omega)) (.cons (by first | exact .here | exact .there .here | exact .there (.there .here) | exact .there (.there (.there .here)) | exact .there (.there (.there (.there .here))) | exact .there (.there (.there (.there (.there .here)))) | exact .there (.there (.there (.there (.there (.there .here)))))) .nil) (fun e A' hq' => ?_); obtain ⟨g', cap', junk', h1, h2⟩ := hq'; subst h1; subst h2)
      | refine ld1_lit ?_
      | refine ldN_lit ?_
      | refine nw (fun n => ?_)
      | refine st_lit rfl ?_
      | refine need (by first | rfl | omega) ?_
      | (refine wr (fun z hz => ?_); (try rw [Int.tdiv_eq_ediv_of_nonneg (by omega)] at hz); rw [w64 (by omega) (by omega)] at hz; subst hz)
      | (refine zv (fun z hz => ?_); (try rw [Int.tmod_eq_emod_of_nonneg (by omega)] at hz); subst hz)
      | (refine ifs (fun h => ?_) (fun h => ?_) <;> (try (exfalso; first | omega | with_reducible contradiction | with_reducible exact h rfl))))
  all_goals (conv => whnf)
  exact fin_new (.cons (by first | exact .here | exact .there .here | exact .there (.there .here) | exact .there (.there (.there .here)) | exact .there (.there (.there (.there .here))) | exact .there (.there (.there (.there (.there .here)))) | exact .there (.there (.there (.there (.there (.there .here)))))) (.cons (by first | exact .here | exact .there .here | exact .there (.there .here) | exact .there (.there (.there .here)) | exact .there (.there (.there (.there .here))) | exact .there (.there (.there (.there (.there .here)))) | exact .there (.there (.there (.there (.there (.there .here)))))) (.cons (by first | exact .here | exact .there .here | exact .there (.there .here) | exact .there (.there (.there .here)) | exact .there (.there (.there (.there .here))) | exact .there (.there (.there (.there (.there .here)))) | exact .there (.there (.there (.there (.there (.there .here)))))) .nil))) (hG.upd hi (ok_set hG (by omega) hg (by decide)))
theorem mark_C (r g q cap : Nat) (s : Nat → Sl10) (junk : List Value) (k grp : Int) (i P : Nat) (v d : Bool) (hq : q ≤ 8) (hG : Good q s) (hi : i < q) (hP : P < 4) (hg : ¬ (s i).g < 0) (h7 : ¬ k = 7) (hvd : d = true → v = true) :
    Fnc Try.prog 28 [pt r, lv g q cap, aV k grp i P v d] [tB r q s, lb g q s junk] (DoQ r q g cap s junk) := by
  have hcase : P = 0 ∨ P = 1 ∨ P = 2 ∨ P = 3 := by omega
  rcases hcase with rfl | rfl | rfl | rfl <;> cases v <;> cases d
  · exact mark_0ff r g q cap s junk k grp i hq hG hi hg h7
  · exact absurd (hvd rfl) (by decide)
  · exact mark_0tf r g q cap s junk k grp i hq hG hi hg h7
  · exact mark_0tt r g q cap s junk k grp i hq hG hi hg h7
  · exact mark_1ff r g q cap s junk k grp i hq hG hi hg h7
  · exact absurd (hvd rfl) (by decide)
  · exact mark_1tf r g q cap s junk k grp i hq hG hi hg h7
  · exact mark_1tt r g q cap s junk k grp i hq hG hi hg h7
  · exact mark_2ff r g q cap s junk k grp i hq hG hi hg h7
  · exact absurd (hvd rfl) (by decide)
  · exact mark_2tf r g q cap s junk k grp i hq hG hi hg h7
  · exact mark_2tt r g q cap s junk k grp i hq hG hi hg h7
  · exact mark_3ff r g q cap s junk k grp i hq hG hi hg h7
  · exact absurd (hvd rfl) (by decide)
  · exact mark_3tf r g q cap s junk k grp i hq hG hi hg h7
  · exact mark_3tt r g q cap s junk k grp i hq hG hi hg h7
set_option maxHeartbeats 4000000 in
theorem mark (r g q cap : Nat) (s : Nat → Sl10) (junk : List Value) (k grp sl p : Int) (v d : Bool) (hq : q ≤ 8) (hG : Good q s) :
    Fnc Try.prog 28 [pt r, lv g q cap, aV k grp sl p v d] [tB r q s, lb g q s junk] (DoQ r q g cap s junk) := by
  by_cases hin : 0 ≤ sl ∧ sl < q ∧ 0 ≤ p ∧ p < 4
  · obtain ⟨i, rfl⟩ := Int.eq_ofNat_of_zero_le hin.1
    obtain ⟨P, rfl⟩ := Int.eq_ofNat_of_zero_le hin.2.2.1
    have hi : i < q := by omega
    have hP : P < 4 := by omega
    by_cases hg : (s i).g < 0
    · refine fn_intro Try.func28 (by kernel_rfl) ?_
      repeat' ((conv => whnf); first
          | refine call_ret (raise_none r q s hq i P hi (by omega) (by omega) hg) (.cons (by first | exact .here | exact .there .here | exact .there (.there .here) | exact .there (.there (.there .here)) | exact .there (.there (.there (.there .here))) | exact .there (.there (.there (.there (.there .here)))) | exact .there (.there (.there (.there (.there (.there .here)))))) .nil) ?_
          | refine call_ret (mark_none r q s hq i P v d hi hP hg) (.cons (by first | exact .here | exact .there .here | exact .there (.there .here) | exact .there (.there (.there .here)) | exact .there (.there (.there (.there .here))) | exact .there (.there (.there (.there (.there .here)))) | exact .there (.there (.there (.there (.there (.there .here)))))) .nil) ?_
          | (refine nv (fun z hz => ?_); (try simp at hz); replace hz := hz.symm; subst hz)
          | refine ld1_row (v := .int .i64 (s i).g) (ll_get' (i := i) (k := 0) (by omega) (by omega) (by omega) rfl) ?_
          | exact fin_do (.cons (by first | exact .here | exact .there .here | exact .there (.there .here) | exact .there (.there (.there .here)) | exact .there (.there (.there (.there .here))) | exact .there (.there (.there (.there (.there .here)))) | exact .there (.there (.there (.there (.there (.there .here)))))) (.cons (by first | exact .here | exact .there .here | exact .there (.there .here) | exact .there (.there (.there .here)) | exact .there (.there (.there (.there .here))) | exact .there (.there (.there (.there (.there .here)))) | exact .there (.there (.there (.there (.there (.there .here)))))) .nil)) hG
          | refine ld1_lit ?_
          | refine ldN_lit ?_
          | refine nw (fun n => ?_)
          | refine st_lit rfl ?_
          | refine need (by first | rfl | omega) ?_
          | (refine wr (fun z hz => ?_); (try rw [Int.tdiv_eq_ediv_of_nonneg (by omega)] at hz); rw [w64 (by omega) (by omega)] at hz; subst hz)
          | (refine zv (fun z hz => ?_); (try rw [Int.tmod_eq_emod_of_nonneg (by omega)] at hz); subst hz)
          | (refine ifs (fun h => ?_) (fun h => ?_) <;> (try (exfalso; first | omega | with_reducible contradiction | with_reducible exact h rfl))))
    · by_cases h7 : k = 7
      · subst h7
        refine fn_intro Try.func28 (by kernel_rfl) ?_
        repeat' ((conv => whnf); first
            | refine call_ret (raise_ok r q s hq i P hi (by omega) (by omega) hg) (.cons (by first | exact .here | exact .there .here | exact .there (.there .here) | exact .there (.there (.there .here)) | exact .there (.there (.there (.there .here))) | exact .there (.there (.there (.there (.there .here)))) | exact .there (.there (.there (.there (.there (.there .here)))))) .nil) ?_
            | (refine nv (fun z hz => ?_); (try simp at hz); replace hz := hz.symm; subst hz)
            | refine ld1_row (v := .int .i64 (s i).g) (ll_get' (i := i) (k := 0) (by omega) (by omega) (by omega) rfl) ?_
            | refine ldN_row (sc (s i)) (ll_part (by omega)) rfl ?_
            | (refine call_fn (rset g q cap i s junk { (s i) with lv := (P : Int) } hq (by omega)) (.cons (by first | exact .here | exact .there .here | exact .there (.there .here) | exact .there (.there (.there .here)) | exact .there (.there (.there (.there .here))) | exact .there (.there (.there (.there (.there .here)))) | exact .there (.there (.there (.there (.there (.there .here)))))) .nil) (fun e A' hq' => ?_); obtain ⟨g', cap', junk', h1, h2⟩ := hq'; subst h1; subst h2)
            | exact fin_new (.cons (by first | exact .here | exact .there .here | exact .there (.there .here) | exact .there (.there (.there .here)) | exact .there (.there (.there (.there .here))) | exact .there (.there (.there (.there (.there .here)))) | exact .there (.there (.there (.there (.there (.there .here)))))) (.cons (by first | exact .here | exact .there .here | exact .there (.there .here) | exact .there (.there (.there .here)) | exact .there (.there (.there (.there .here))) | exact .there (.there (.there (.there (.there .here)))) | exact .there (.there (.there (.there (.there (.there .here)))))) (.cons (by first | exact .here | exact .there .here | exact .there (.there .here) | exact .there (.there (.there .here)) | exact .there (.there (.there (.there .here))) | exact .there (.there (.there (.there (.there .here)))) | exact .there (.there (.there (.there (.there (.there .here)))))) .nil))) (hG.upd hi (ok_lv hG (by omega) (by assumption) (by omega) (by omega)))
            | refine ld1_lit ?_
            | refine ldN_lit ?_
            | refine nw (fun n => ?_)
            | refine st_lit rfl ?_
            | refine need (by first | rfl | omega) ?_
            | (refine wr (fun z hz => ?_); (try rw [Int.tdiv_eq_ediv_of_nonneg (by omega)] at hz); rw [w64 (by omega) (by omega)] at hz; subst hz)
            | (refine zv (fun z hz => ?_); (try rw [Int.tmod_eq_emod_of_nonneg (by omega)] at hz); subst hz)
            | (refine ifs (fun h => ?_) (fun h => ?_) <;> (try (exfalso; first | omega | with_reducible contradiction | with_reducible exact h rfl))))
      · by_cases hvd : d = true ∧ v = false
        · obtain ⟨rfl, rfl⟩ := hvd
          refine fn_intro Try.func28 (by kernel_rfl) ?_
          repeat' ((conv => whnf); first
              | refine call_ret (mark_arg r q s hq i P hi hP hg) (.cons (by first | exact .here | exact .there .here | exact .there (.there .here) | exact .there (.there (.there .here)) | exact .there (.there (.there (.there .here))) | exact .there (.there (.there (.there (.there .here)))) | exact .there (.there (.there (.there (.there (.there .here)))))) .nil) ?_
              | (refine nv (fun z hz => ?_); (try simp at hz); replace hz := hz.symm; subst hz)
              | refine ld1_row (v := .int .i64 (s i).g) (ll_get' (i := i) (k := 0) (by omega) (by omega) (by omega) rfl) ?_
              | exact fin_do (.cons (by first | exact .here | exact .there .here | exact .there (.there .here) | exact .there (.there (.there .here)) | exact .there (.there (.there (.there .here))) | exact .there (.there (.there (.there (.there .here)))) | exact .there (.there (.there (.there (.there (.there .here)))))) (.cons (by first | exact .here | exact .there .here | exact .there (.there .here) | exact .there (.there (.there .here)) | exact .there (.there (.there (.there .here))) | exact .there (.there (.there (.there (.there .here)))) | exact .there (.there (.there (.there (.there (.there .here)))))) .nil)) hG
              | refine ld1_lit ?_
              | refine ldN_lit ?_
              | refine nw (fun n => ?_)
              | refine st_lit rfl ?_
              | refine need (by first | rfl | omega) ?_
              | (refine wr (fun z hz => ?_); (try rw [Int.tdiv_eq_ediv_of_nonneg (by omega)] at hz); rw [w64 (by omega) (by omega)] at hz; subst hz)
              | (refine zv (fun z hz => ?_); (try rw [Int.tmod_eq_emod_of_nonneg (by omega)] at hz); subst hz)
              | (refine ifs (fun h => ?_) (fun h => ?_) <;> (try (exfalso; first | omega | with_reducible contradiction | with_reducible exact h rfl))))
        · have hvd' : d = true → v = true := by intro hd; cases v with
            | true => rfl
            | false => exact absurd ⟨hd, rfl⟩ hvd
          exact mark_C r g q cap s junk k grp i P v d hq hG hi hP hg h7 hvd'
  · refine fn_intro Try.func28 (by kernel_rfl) ?_
    repeat' ((conv => whnf); first
        | refine call_ret (raise_out r q s sl p (by omega)) (.cons (by first | exact .here | exact .there .here | exact .there (.there .here) | exact .there (.there (.there .here)) | exact .there (.there (.there (.there .here))) | exact .there (.there (.there (.there (.there .here)))) | exact .there (.there (.there (.there (.there (.there .here)))))) .nil) ?_
        | refine call_ret (mark_out r q s sl p v d (by omega)) (.cons (by first | exact .here | exact .there .here | exact .there (.there .here) | exact .there (.there (.there .here)) | exact .there (.there (.there (.there .here))) | exact .there (.there (.there (.there (.there .here)))) | exact .there (.there (.there (.there (.there (.there .here)))))) .nil) ?_
        | exact fin_do (.cons (by first | exact .here | exact .there .here | exact .there (.there .here) | exact .there (.there (.there .here)) | exact .there (.there (.there (.there .here))) | exact .there (.there (.there (.there (.there .here)))) | exact .there (.there (.there (.there (.there (.there .here)))))) (.cons (by first | exact .here | exact .there .here | exact .there (.there .here) | exact .there (.there (.there .here)) | exact .there (.there (.there (.there .here))) | exact .there (.there (.there (.there (.there .here)))) | exact .there (.there (.there (.there (.there (.there .here)))))) .nil)) hG
        | refine ld1_lit ?_
        | refine ldN_lit ?_
        | refine nw (fun n => ?_)
        | refine st_lit rfl ?_
        | refine need (by first | rfl | omega) ?_
        | (refine wr (fun z hz => ?_); (try rw [Int.tdiv_eq_ediv_of_nonneg (by omega)] at hz); rw [w64 (by omega) (by omega)] at hz; subst hz)
        | (refine zv (fun z hz => ?_); (try rw [Int.tmod_eq_emod_of_nonneg (by omega)] at hz); subst hz)
        | (refine ifs (fun h => ?_) (fun h => ?_) <;> (try (exfalso; first | omega | with_reducible contradiction | with_reducible exact h rfl))))
end Go.Proofs.Ytlmhagngbfcdkaa.Slots
