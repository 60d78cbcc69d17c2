/- A call of a table and of another list: mark and do. -/
import Derived.Test.YtlmhagngbfcdkaaSl20
namespace Go.Proofs.Ytlmhagngbfcdkaa.Slots
open Go Ev Be
set_option linter.unusedVariables false
set_option linter.unusedSimpArgs false
set_option maxRecDepth 100000
attribute [local irreducible] rl tc bu biX rowI rowE rowS padE padS by1 pw full convert Builtin.copy_ Builtin.append_ Instr.makeSlice
set_option maxHeartbeats 8000000 in
theorem mark2 (r g q cap : Nat) (s s2 : Nat → Sl10) (junk : List Value) (k grp sl p : Int) (v d : Bool) (hq : q ≤ 8) :
    Fnc Try.prog 28 [pt r, lv g q cap, aV k grp sl p v d] [tB r q s, lb g q s2 junk] (DoA r g q s2 junk) := by
  have hraise := raiseA r q s hq sl p
  have hmark := markA r q s hq sl p v d
  by_cases hin : 0 ≤ sl ∧ sl < q ∧ 0 ≤ p ∧ p < 4
  · obtain ⟨i, rfl⟩ := Int.eq_ofNat_of_zero_le hin.1
    obtain ⟨P, rfl⟩ := Int.eq_ofNat_of_zero_le hin.2.2.1
    have hi : i < q := by omega
    have hP : P < 4 := by omega
    by_cases h7 : k = 7
    · subst h7
      refine fn_intro Try.func28 (by kernel_rfl) ?_
      repeat' ((conv => whnf); first
          | (refine call_fn hraise (.cons takeC .nil) (fun e A' hq' => ?_); obtain ⟨s', y, rfl, rfl⟩ := hq')
          | (refine nv (fun z hz => ?_); (try simp at hz); replace hz := hz.symm; subst hz)
          | refine ld1_row (n := g) (v := .int .i64 (s2 i).g) (ll_get' (i := i) (k := 0) (by omega) (by omega) (by omega) rfl) ?_
          | refine ldN_row (n := g) (sc (s2 i)) (ll_part (by omega)) rfl ?_
          | (refine call_fn (rsetA g q cap i s2 junk (sc { (s2 i) with lv := (P : Int) }) rfl (sc_one _) hq hi) (.cons takeC .nil) (fun e A' hq' => ?_); obtain ⟨w, rfl, rfl⟩ := hq')
          | exact fin_doA (.cons takeC (.cons takeC .nil))
          | refine ld1_lit ?_
          | refine ldN_lit ?_
          | refine nw (fun n => ?_)
          | refine st_lit rfl ?_
          | refine need (by first | rfl | omega) ?_
          | (refine wr (fun z hz => ?_); (try rw [Int.tdiv_eq_ediv_of_nonneg (by omega)] at hz); rw [w64 (by omega) (by omega)] at hz; subst hz)
          | (refine zv (fun z hz => ?_); (try rw [Int.tmod_eq_emod_of_nonneg (by omega)] at hz); subst hz)
          | (refine ifs (fun h => ?_) (fun h => ?_) <;> (try (exfalso; first | omega | with_reducible contradiction | with_reducible exact h rfl))))
    · have hone : ∀ u ∈ (((sc (s2 i)).set (1 + P) (.bool v)).set (5 + P) (.bool d)), u.oneCell' = true := by
        intro u hu
        rcases List.mem_or_eq_of_mem_set hu with hu | rfl
        · rcases List.mem_or_eq_of_mem_set hu with hu | rfl
          · exact sc_one _ u hu
          · rfl
        · rfl
      refine fn_intro Try.func28 (by kernel_rfl) ?_
      rcases v with _ | _ <;> rcases d with _ | _
      · repeat' ((conv => whnf); first
          | (refine call_fn hmark (.cons takeC .nil) (fun e A' hq' => ?_); obtain ⟨s', y, rfl, rfl⟩ := hq')
          | (refine nv (fun z hz => ?_); (try simp at hz); replace hz := hz.symm; subst hz)
          | refine ld1_row (n := g) (v := .int .i64 (s2 i).g) (ll_get' (i := i) (k := 0) (by omega) (by omega) (by omega) rfl) ?_
          | refine ldN_row (n := g) (sc (s2 i)) (ll_part (by omega)) rfl ?_
          | refine st_sym (off := 1 + P) rfl (by rw [sc_len]; omega) ?_
          | refine st_row (off := 5 + P) rfl (by rw [List.length_set, sc_len]; omega) ?_
          | refine ldN_row (n := n) (((sc (s2 i)).set (1 + P) (.bool false)).set (5 + P) (.bool false)) (by rw [List.drop_zero, List.take_of_length_le (by rw [List.length_set, List.length_set, sc_len]; omega)]) (by rw [List.length_set, List.length_set, sc_len]; rfl) ?_
          | (refine call_fn (rsetA g q cap i s2 junk (((sc (s2 i)).set (1 + P) (.bool false)).set (5 + P) (.bool false)) (by rw [List.length_set, List.length_set, sc_len]) hone hq hi) (.cons takeC .nil) (fun e A' hq' => ?_); obtain ⟨w, rfl, rfl⟩ := hq')
          | exact fin_doA (.cons takeC (.cons takeC .nil))
          | refine ld1_lit ?_
          | refine ldN_lit ?_
          | refine nw (fun n => ?_)
          | refine st_lit rfl ?_
          | refine need (by first | rfl | omega) ?_
          | (refine wr (fun z hz => ?_); (try rw [Int.tdiv_eq_ediv_of_nonneg (by omega)] at hz); rw [w64 (by omega) (by omega)] at hz; subst hz)
          | (refine zv (fun z hz => ?_); (try rw [Int.tmod_eq_emod_of_nonneg (by omega)] at hz); subst hz)
          | (refine ifs (fun h => ?_) (fun h => ?_) <;> (try (exfalso; first | omega | with_reducible contradiction | with_reducible exact h rfl))))
      · repeat' ((conv => whnf); first
          | (refine call_fn hmark (.cons takeC .nil) (fun e A' hq' => ?_); obtain ⟨s', y, rfl, rfl⟩ := hq')
          | (refine nv (fun z hz => ?_); (try simp at hz); replace hz := hz.symm; subst hz)
          | refine ld1_row (n := g) (v := .int .i64 (s2 i).g) (ll_get' (i := i) (k := 0) (by omega) (by omega) (by omega) rfl) ?_
          | refine ldN_row (n := g) (sc (s2 i)) (ll_part (by omega)) rfl ?_
          | refine st_sym (off := 1 + P) rfl (by rw [sc_len]; omega) ?_
          | refine st_row (off := 5 + P) rfl (by rw [List.length_set, sc_len]; omega) ?_
          | refine ldN_row (n := n) (((sc (s2 i)).set (1 + P) (.bool false)).set (5 + P) (.bool true)) (by rw [List.drop_zero, List.take_of_length_le (by rw [List.length_set, List.length_set, sc_len]; omega)]) (by rw [List.length_set, List.length_set, sc_len]; rfl) ?_
          | (refine call_fn (rsetA g q cap i s2 junk (((sc (s2 i)).set (1 + P) (.bool false)).set (5 + P) (.bool true)) (by rw [List.length_set, List.length_set, sc_len]) hone hq hi) (.cons takeC .nil) (fun e A' hq' => ?_); obtain ⟨w, rfl, rfl⟩ := hq')
          | exact fin_doA (.cons takeC (.cons takeC .nil))
          | refine ld1_lit ?_
          | refine ldN_lit ?_
          | refine nw (fun n => ?_)
          | refine st_lit rfl ?_
          | refine need (by first | rfl | omega) ?_
          | (refine wr (fun z hz => ?_); (try rw [Int.tdiv_eq_ediv_of_nonneg (by omega)] at hz); rw [w64 (by omega) (by omega)] at hz; subst hz)
          | (refine zv (fun z hz => ?_); (try rw [Int.tmod_eq_emod_of_nonneg (by omega)] at hz); subst hz)
          | (refine ifs (fun h => ?_) (fun h => ?_) <;> (try (exfalso; first | omega | with_reducible contradiction | with_reducible exact h rfl))))
      · repeat' ((conv => whnf); first
          | (refine call_fn hmark (.cons takeC .nil) (fun e A' hq' => ?_); obtain ⟨s', y, rfl, rfl⟩ := hq')
          | (refine nv (fun z hz => ?_); (try simp at hz); replace hz := hz.symm; subst hz)
          | refine ld1_row (n := g) (v := .int .i64 (s2 i).g) (ll_get' (i := i) (k := 0) (by omega) (by omega) (by omega) rfl) ?_
          | refine ldN_row (n := g) (sc (s2 i)) (ll_part (by omega)) rfl ?_
          | refine st_sym (off := 1 + P) rfl (by rw [sc_len]; omega) ?_
          | refine st_row (off := 5 + P) rfl (by rw [List.length_set, sc_len]; omega) ?_
          | refine ldN_row (n := n) (((sc (s2 i)).set (1 + P) (.bool true)).set (5 + P) (.bool false)) (by rw [List.drop_zero, List.take_of_length_le (by rw [List.length_set, List.length_set, sc_len]; omega)]) (by rw [List.length_set, List.length_set, sc_len]; rfl) ?_
          | (refine call_fn (rsetA g q cap i s2 junk (((sc (s2 i)).set (1 + P) (.bool true)).set (5 + P) (.bool false)) (by rw [List.length_set, List.length_set, sc_len]) hone hq hi) (.cons takeC .nil) (fun e A' hq' => ?_); obtain ⟨w, rfl, rfl⟩ := hq')
          | exact fin_doA (.cons takeC (.cons takeC .nil))
          | refine ld1_lit ?_
          | refine ldN_lit ?_
          | refine nw (fun n => ?_)
          | refine st_lit rfl ?_
          | refine need (by first | rfl | omega) ?_
          | (refine wr (fun z hz => ?_); (try rw [Int.tdiv_eq_ediv_of_nonneg (by omega)] at hz); rw [w64 (by omega) (by omega)] at hz; subst hz)
          | (refine zv (fun z hz => ?_); (try rw [Int.tmod_eq_emod_of_nonneg (by omega)] at hz); subst hz)
          | (refine ifs (fun h => ?_) (fun h => ?_) <;> (try (exfalso; first | omega | with_reducible contradiction | with_reducible exact h rfl))))
      · repeat' ((conv => whnf); first
          | (refine call_fn hmark (.cons takeC .nil) (fun e A' hq' => ?_); obtain ⟨s', y, rfl, rfl⟩ := hq')
          | (refine nv (fun z hz => ?_); (try simp at hz); replace hz := hz.symm; subst hz)
          | refine ld1_row (n := g) (v := .int .i64 (s2 i).g) (ll_get' (i := i) (k := 0) (by omega) (by omega) (by omega) rfl) ?_
          | refine ldN_row (n := g) (sc (s2 i)) (ll_part (by omega)) rfl ?_
          | refine st_sym (off := 1 + P) rfl (by rw [sc_len]; omega) ?_
          | refine st_row (off := 5 + P) rfl (by rw [List.length_set, sc_len]; omega) ?_
          | refine ldN_row (n := n) (((sc (s2 i)).set (1 + P) (.bool true)).set (5 + P) (.bool true)) (by rw [List.drop_zero, List.take_of_length_le (by rw [List.length_set, List.length_set, sc_len]; omega)]) (by rw [List.length_set, List.length_set, sc_len]; rfl) ?_
          | (refine call_fn (rsetA g q cap i s2 junk (((sc (s2 i)).set (1 + P) (.bool true)).set (5 + P) (.bool true)) (by rw [List.length_set, List.length_set, sc_len]) hone hq hi) (.cons takeC .nil) (fun e A' hq' => ?_); obtain ⟨w, rfl, rfl⟩ := hq')
          | exact fin_doA (.cons takeC (.cons takeC .nil))
          | refine ld1_lit ?_
          | refine ldN_lit ?_
          | refine nw (fun n => ?_)
          | refine st_lit rfl ?_
          | refine need (by first | rfl | omega) ?_
          | (refine wr (fun z hz => ?_); (try rw [Int.tdiv_eq_ediv_of_nonneg (by omega)] at hz); rw [w64 (by omega) (by omega)] at hz; subst hz)
          | (refine zv (fun z hz => ?_); (try rw [Int.tmod_eq_emod_of_nonneg (by omega)] at hz); subst hz)
          | (refine ifs (fun h => ?_) (fun h => ?_) <;> (try (exfalso; first | omega | with_reducible contradiction | with_reducible exact h rfl))))
  · by_cases h7 : k = 7
    · subst h7
      refine fn_intro Try.func28 (by kernel_rfl) ?_
      repeat' ((conv => whnf); first
          | (refine call_fn hraise (.cons takeC .nil) (fun e A' hq' => ?_); obtain ⟨s', y, rfl, rfl⟩ := hq')
          | exact fin_doA (.cons takeC (.cons takeC .nil))
          | refine ld1_lit ?_
          | refine ldN_lit ?_
          | refine nw (fun n => ?_)
          | refine st_lit rfl ?_
          | refine need (by first | rfl | omega) ?_
          | (refine wr (fun z hz => ?_); (try rw [Int.tdiv_eq_ediv_of_nonneg (by omega)] at hz); rw [w64 (by omega) (by omega)] at hz; subst hz)
          | (refine zv (fun z hz => ?_); (try rw [Int.tmod_eq_emod_of_nonneg (by omega)] at hz); subst hz)
          | (refine ifs (fun h => ?_) (fun h => ?_) <;> (try (exfalso; first | omega | with_reducible contradiction | with_reducible exact h rfl))))
    · refine fn_intro Try.func28 (by kernel_rfl) ?_
      repeat' ((conv => whnf); first
          | (refine call_fn hmark (.cons takeC .nil) (fun e A' hq' => ?_); obtain ⟨s', y, rfl, rfl⟩ := hq')
          | exact fin_doA (.cons takeC (.cons takeC .nil))
          | refine ld1_lit ?_
          | refine ldN_lit ?_
          | refine nw (fun n => ?_)
          | refine st_lit rfl ?_
          | refine need (by first | rfl | omega) ?_
          | (refine wr (fun z hz => ?_); (try rw [Int.tdiv_eq_ediv_of_nonneg (by omega)] at hz); rw [w64 (by omega) (by omega)] at hz; subst hz)
          | (refine zv (fun z hz => ?_); (try rw [Int.tmod_eq_emod_of_nonneg (by omega)] at hz); subst hz)
          | (refine ifs (fun h => ?_) (fun h => ?_) <;> (try (exfalso; first | omega | with_reducible contradiction | with_reducible exact h rfl))))
set_option maxHeartbeats 8000000 in
theorem do2 (r g q cap : Nat) (s s2 : Nat → Sl10) (junk : List Value) (k grp sl p : Int) (v d : Bool) (hq : q ≤ 8) :
    Fnc Try.prog 11 [pt r, lv g q cap, aV k grp sl p v d] [tB r q s, lb g q s2 junk] (DoA r g q s2 junk) := by
  have htake := take2 r g q cap s s2 junk grp hq
  have hmark := fun k => mark2 r g q cap s s2 junk k grp sl p v d hq
  have hfree := freeA r q s hq sl
  obtain ⟨x, b, hfind⟩ := findA r q s grp
  obtain ⟨y, hrf⟩ := rfindA g q cap s2 junk grp hq
  have hcase : k = 0 ∨ k = 1 ∨ k = 2 ∨ k = 3 ∨ k = 4 ∨ k = 5 ∨ k = 6 ∨ k = 7 ∨ (k < 0 ∨ 7 < k) := by omega
  rcases hcase with rfl | rfl | rfl | rfl | rfl | rfl | rfl | rfl | hk
  · refine fn_intro Try.func11 (by kernel_rfl) ?_
    repeat' ((conv => whnf); first
        | (refine call_fn htake (.cons takeC (.cons takeC .nil)) (fun e A' hq' => ?_); obtain ⟨s', w, b', rfl, rfl⟩ := hq')
        | exact fin_doA (.cons takeC (.cons takeC .nil))
        | refine ld1_lit ?_
        | refine ldN_lit ?_
        | refine nw (fun n => ?_)
        | refine st_lit rfl ?_
        | refine need (by first | rfl | omega) ?_
        | (refine wr (fun z hz => ?_); (try rw [Int.tdiv_eq_ediv_of_nonneg (by omega)] at hz); rw [w64 (by omega) (by omega)] at hz; subst hz)
        | (refine zv (fun z hz => ?_); (try rw [Int.tmod_eq_emod_of_nonneg (by omega)] at hz); subst hz)
        | (refine ifs (fun h => ?_) (fun h => ?_) <;> (try (exfalso; first | omega | with_reducible contradiction | with_reducible exact h rfl))))
  · refine fn_intro Try.func11 (by kernel_rfl) ?_
    repeat' ((conv => whnf); first
        | (refine call_fn htake (.cons takeC (.cons takeC .nil)) (fun e A' hq' => ?_); obtain ⟨s', w, b', rfl, rfl⟩ := hq')
        | exact fin_doA (.cons takeC (.cons takeC .nil))
        | refine ld1_lit ?_
        | refine ldN_lit ?_
        | refine nw (fun n => ?_)
        | refine st_lit rfl ?_
        | refine need (by first | rfl | omega) ?_
        | (refine wr (fun z hz => ?_); (try rw [Int.tdiv_eq_ediv_of_nonneg (by omega)] at hz); rw [w64 (by omega) (by omega)] at hz; subst hz)
        | (refine zv (fun z hz => ?_); (try rw [Int.tmod_eq_emod_of_nonneg (by omega)] at hz); subst hz)
        | (refine ifs (fun h => ?_) (fun h => ?_) <;> (try (exfalso; first | omega | with_reducible contradiction | with_reducible exact h rfl))))
  · refine fn_intro Try.func11 (by kernel_rfl) ?_
    repeat' ((conv => whnf); first
        | (refine call_fn htake (.cons takeC (.cons takeC .nil)) (fun e A' hq' => ?_); obtain ⟨s', w, b', rfl, rfl⟩ := hq')
        | exact fin_doA (.cons takeC (.cons takeC .nil))
        | refine ld1_lit ?_
        | refine ldN_lit ?_
        | refine nw (fun n => ?_)
        | refine st_lit rfl ?_
        | refine need (by first | rfl | omega) ?_
        | (refine wr (fun z hz => ?_); (try rw [Int.tdiv_eq_ediv_of_nonneg (by omega)] at hz); rw [w64 (by omega) (by omega)] at hz; subst hz)
        | (refine zv (fun z hz => ?_); (try rw [Int.tmod_eq_emod_of_nonneg (by omega)] at hz); subst hz)
        | (refine ifs (fun h => ?_) (fun h => ?_) <;> (try (exfalso; first | omega | with_reducible contradiction | with_reducible exact h rfl))))
  · refine fn_intro Try.func11 (by kernel_rfl) ?_
    by_cases hin : 0 ≤ sl ∧ sl < q
    · obtain ⟨i, rfl⟩ := Int.eq_ofNat_of_zero_le hin.1
      have hi : i < q := by omega
      have hrb := rbusy (s2 i)
      rcases hbz : busyB (s2 i) with _ | _
      all_goals rw [hbz] at hrb
      all_goals repeat' ((conv => whnf); first
          | (refine call_fn hfree (.cons takeC .nil) (fun e A' hq' => ?_); obtain ⟨s', z', rfl, rfl⟩ := hq')
          | (refine nv (fun z hz => ?_); (try simp at hz); replace hz := hz.symm; subst hz)
          | refine ld1_row (n := g) (v := .int .i64 (s2 i).g) (ll_get' (i := i) (k := 0) (by omega) (by omega) (by omega) rfl) ?_
          | refine ldN_row (n := g) (sc (s2 i)) (ll_part (by omega)) rfl ?_
          | refine call_val hrb ?_
          | (refine call_fn (rsetA g q cap i s2 junk (sc freeS) rfl (sc_one _) hq hi) (.cons takeC .nil) (fun e A' hq' => ?_); obtain ⟨w, rfl, rfl⟩ := hq')
          | exact fin_doA (.cons takeC (.cons takeC .nil))
          | refine ld1_lit ?_
          | refine ldN_lit ?_
          | refine nw (fun n => ?_)
          | refine st_lit rfl ?_
          | refine need (by first | rfl | omega) ?_
          | (refine wr (fun z hz => ?_); (try rw [Int.tdiv_eq_ediv_of_nonneg (by omega)] at hz); rw [w64 (by omega) (by omega)] at hz; subst hz)
          | (refine zv (fun z hz => ?_); (try rw [Int.tmod_eq_emod_of_nonneg (by omega)] at hz); subst hz)
          | (refine ifs (fun h => ?_) (fun h => ?_) <;> (try (exfalso; first | omega | with_reducible contradiction | with_reducible exact h rfl))))
    · repeat' ((conv => whnf); first
        | (refine call_fn hfree (.cons takeC .nil) (fun e A' hq' => ?_); obtain ⟨s', z', rfl, rfl⟩ := hq')
        | exact fin_doA (.cons takeC (.cons takeC .nil))
        | refine ld1_lit ?_
        | refine ldN_lit ?_
        | refine nw (fun n => ?_)
        | refine st_lit rfl ?_
        | refine need (by first | rfl | omega) ?_
        | (refine wr (fun z hz => ?_); (try rw [Int.tdiv_eq_ediv_of_nonneg (by omega)] at hz); rw [w64 (by omega) (by omega)] at hz; subst hz)
        | (refine zv (fun z hz => ?_); (try rw [Int.tmod_eq_emod_of_nonneg (by omega)] at hz); subst hz)
        | (refine ifs (fun h => ?_) (fun h => ?_) <;> (try (exfalso; first | omega | with_reducible contradiction | with_reducible exact h rfl))))
  · refine fn_intro Try.func11 (by kernel_rfl) ?_
    repeat' ((conv => whnf); first
        | (refine call_fn (hmark 4) (.cons takeC (.cons takeC .nil)) (fun e A' hq' => ?_); obtain ⟨s', w, b', rfl, rfl⟩ := hq')
        | exact fin_doA (.cons takeC (.cons takeC .nil))
        | refine ld1_lit ?_
        | refine ldN_lit ?_
        | refine nw (fun n => ?_)
        | refine st_lit rfl ?_
        | refine need (by first | rfl | omega) ?_
        | (refine wr (fun z hz => ?_); (try rw [Int.tdiv_eq_ediv_of_nonneg (by omega)] at hz); rw [w64 (by omega) (by omega)] at hz; subst hz)
        | (refine zv (fun z hz => ?_); (try rw [Int.tmod_eq_emod_of_nonneg (by omega)] at hz); subst hz)
        | (refine ifs (fun h => ?_) (fun h => ?_) <;> (try (exfalso; first | omega | with_reducible contradiction | with_reducible exact h rfl))))
  · refine fn_intro Try.func11 (by kernel_rfl) ?_
    repeat' ((conv => whnf); first
        | (refine call_fn (hmark 5) (.cons takeC (.cons takeC .nil)) (fun e A' hq' => ?_); obtain ⟨s', w, b', rfl, rfl⟩ := hq')
        | exact fin_doA (.cons takeC (.cons takeC .nil))
        | refine ld1_lit ?_
        | refine ldN_lit ?_
        | refine nw (fun n => ?_)
        | refine st_lit rfl ?_
        | refine need (by first | rfl | omega) ?_
        | (refine wr (fun z hz => ?_); (try rw [Int.tdiv_eq_ediv_of_nonneg (by omega)] at hz); rw [w64 (by omega) (by omega)] at hz; subst hz)
        | (refine zv (fun z hz => ?_); (try rw [Int.tmod_eq_emod_of_nonneg (by omega)] at hz); subst hz)
        | (refine ifs (fun h => ?_) (fun h => ?_) <;> (try (exfalso; first | omega | with_reducible contradiction | with_reducible exact h rfl))))
  · refine fn_intro Try.func11 (by kernel_rfl) ?_
    repeat' ((conv => whnf); first
        | (refine call_fn (hmark 6) (.cons takeC (.cons takeC .nil)) (fun e A' hq' => ?_); obtain ⟨s', w, b', rfl, rfl⟩ := hq')
        | exact fin_doA (.cons takeC (.cons takeC .nil))
        | refine ld1_lit ?_
        | refine ldN_lit ?_
        | refine nw (fun n => ?_)
        | refine st_lit rfl ?_
        | refine need (by first | rfl | omega) ?_
        | (refine wr (fun z hz => ?_); (try rw [Int.tdiv_eq_ediv_of_nonneg (by omega)] at hz); rw [w64 (by omega) (by omega)] at hz; subst hz)
        | (refine zv (fun z hz => ?_); (try rw [Int.tmod_eq_emod_of_nonneg (by omega)] at hz); subst hz)
        | (refine ifs (fun h => ?_) (fun h => ?_) <;> (try (exfalso; first | omega | with_reducible contradiction | with_reducible exact h rfl))))
  · refine fn_intro Try.func11 (by kernel_rfl) ?_
    repeat' ((conv => whnf); first
        | (refine call_fn (hmark 7) (.cons takeC (.cons takeC .nil)) (fun e A' hq' => ?_); obtain ⟨s', w, b', rfl, rfl⟩ := hq')
        | exact fin_doA (.cons takeC (.cons takeC .nil))
        | refine ld1_lit ?_
        | refine ldN_lit ?_
        | refine nw (fun n => ?_)
        | refine st_lit rfl ?_
        | refine need (by first | rfl | omega) ?_
        | (refine wr (fun z hz => ?_); (try rw [Int.tdiv_eq_ediv_of_nonneg (by omega)] at hz); rw [w64 (by omega) (by omega)] at hz; subst hz)
        | (refine zv (fun z hz => ?_); (try rw [Int.tmod_eq_emod_of_nonneg (by omega)] at hz); subst hz)
        | (refine ifs (fun h => ?_) (fun h => ?_) <;> (try (exfalso; first | omega | with_reducible contradiction | with_reducible exact h rfl))))
  · refine fn_intro Try.func11 (by kernel_rfl) ?_
    rcases b with _ | _
    all_goals repeat' ((conv => whnf); first
        | refine call_ret hfind (.cons takeC .nil) ?_
        | refine call_ret hrf (.cons takeC .nil) ?_
        | exact fin_doA (.cons takeC (.cons takeC .nil))
        | refine ld1_lit ?_
        | refine ldN_lit ?_
        | refine nw (fun n => ?_)
        | refine st_lit rfl ?_
        | refine need (by first | rfl | omega) ?_
        | (refine wr (fun z hz => ?_); (try rw [Int.tdiv_eq_ediv_of_nonneg (by omega)] at hz); rw [w64 (by omega) (by omega)] at hz; subst hz)
        | (refine zv (fun z hz => ?_); (try rw [Int.tmod_eq_emod_of_nonneg (by omega)] at hz); subst hz)
        | (refine ifs (fun h => ?_) (fun h => ?_) <;> (try (exfalso; first | omega | with_reducible contradiction | with_reducible exact h rfl))))
end Go.Proofs.Ytlmhagngbfcdkaa.Slots
