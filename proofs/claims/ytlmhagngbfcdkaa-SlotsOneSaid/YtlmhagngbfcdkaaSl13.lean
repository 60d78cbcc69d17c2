/- The law SlotsOne: no two slots have one group; what is dirty is valid; free slots have nothing. -/
import Derived.Test.YtlmhagngbfcdkaaSl12
namespace Go.Proofs.Ytlmhagngbfcdkaa.Slots
open Go Ev Be
set_option linter.unusedVariables false
set_option linter.unusedSimpArgs false
set_option maxRecDepth 100000
attribute [local irreducible] rl tc bu biX rowI rowE rowS padE padS by1 pw full aLs cnt convert Builtin.copy_ Builtin.append_ Instr.makeSlice
set_option maxHeartbeats 4000000 in
theorem slotsOne (u : Int) (l : List Act6) (S : Sl) (h0 : 0 ≤ u) (h1 : u ≤ 255) (hS : S.ok l.length) (hl : l.length ≤ 9223372036854775807) :
    Fnc Try.prog 4 [.int .u8 u, S.val l.length] (S.blk (aLs l)) (Ret (.bool true) (S.blk (aLs l))) := by
  obtain ⟨q, hq⟩ := Int.eq_ofNat_of_zero_le (show 0 ≤ u % 8 + 1 by omega)
  have hq1 : 1 ≤ q := by omega
  have hq8 : q ≤ 8 := by omega
  have hnew : Fnc Try.prog 8 [.int .i64 (u % 8 + 1)] [] (fun e A => ∃ r, e = .returned (.tuple #[pt r, .int .i64 0]) ∧ A = [tB r q (fun _ => freeS)]) := by
    rw [hq]
    have h := new_in q hq1 hq8
    simp only [tB_free] at h
    exact h
  have hrnew : Fnc Try.prog 10 [.int .i64 (u % 8 + 1)] [] (fun e A => ∃ g cap junk, e = .returned (lv g q cap) ∧ A = [lb g q (fun _ => freeS) junk]) := by
    rw [hq]
    exact rnew q hq1 hq8
  refine fn_intro Try.func4 (by kernel_rfl) ?_
  repeat' ((conv => whnf); first
      | (refine nv (fun z hz => ?_); (try simp at hz); replace hz := hz.symm; subst hz)
      | (refine call_fn hnew .nil (fun e A' hq => ?_); obtain ⟨r, h1, h2⟩ := hq; subst h1; subst h2)
      | refine call_val awake ?_
      | (refine call_fn hrnew .nil (fun e A' hq => ?_); obtain ⟨g, cap, junk, h1, h2⟩ := hq; subst h1; subst h2)
      | refine loop_rule [8, 9] (fun vs M m => ∃ (i g cap : Nat) (s : Nat → Sl10) (junk : List Value), vs = [lv g q cap, .int .i64 i] ∧ Good q s ∧ i ≤ l.length ∧ i ≤ 50 ∧ m = l.length - i ∧ M = lb g q s junk :: tB r q s :: S.blk (aLs l)) rfl ?_ ?_
      | refine ld1_lit ?_
      | refine ldN_lit ?_
      | refine nw (fun n => ?_)
      | refine st_lit rfl ?_
      | refine need (by first | rfl | omega) ?_
      | (refine wr (fun z hz => ?_); (try rw [Int.tdiv_eq_ediv_of_nonneg (by omega)] at hz); rw [w64 (by omega) (by omega)] at hz; subst hz)
      | (refine zv (fun z hz => ?_); (try rw [Int.tmod_eq_emod_of_nonneg (by omega)] at hz); subst hz)
      | (refine ifs (fun h => ?_) (fun h => ?_) <;> (try (exfalso; first | omega | with_reducible contradiction | with_reducible exact h rfl))))
  all_goals (conv => whnf)
  · exact fin_all ⟨_, 0, g, cap, _, junk, rfl, good_free q, by omega, by omega, rfl, rfl⟩
  rintro vs junk1 M' m ⟨i, g, cap, s, junk, rfl, hG, hi, hi5, rfl, rfl⟩
  obtain hi' | ⟨a, hxi⟩ : l.length ≤ i ∨ ∃ a, l[i]? = some a := by
    by_cases h : i < l.length
    · exact .inr ⟨_, List.getElem?_eq_getElem h⟩
    · exact .inl (by omega)
  all_goals try have hin : i < l.length := (List.getElem?_eq_some_iff.1 hxi).1
  repeat' ((conv => whnf); first
      | (rcases S with ⟨p, c⟩ | ⟨b, off, cap9⟩; (exfalso; have hS : l.length = 0 := hS; omega))
      | (refine nv (fun z hz => ?_); (try simp at hz); replace hz := hz.symm; subst hz)
      | refine ldN_ro (o := off) (cs := aLs l) (q := i * 6) (aL a) rfl (aL_at hxi) rfl ?_
      | (refine call_fn (do_ r g q cap s junk a.k a.g a.s a.p a.v a.d (by omega) hG) (.cons (by first | exact .here | exact .there .here | exact .there (.there .here) | exact .there (.there (.there .here)) | exact .there (.there (.there (.there .here)))) (.cons (by first | exact .here | exact .there .here | exact .there (.there .here) | exact .there (.there (.there .here)) | exact .there (.there (.there (.there .here)))) .nil)) (fun e A' hq' => ?_); obtain ⟨s', g', cap', junk', hG', h1, h2⟩ := hq'; subst h1; subst h2)
      | refine loop_rule [10] (fun vs M m => ∃ x : Nat, vs = [.int .i64 x] ∧ x ≤ q ∧ m = q - x ∧ M = [tB r q s', lb g' q s' junk', ⟨b, .ro off (aLs l)⟩]) rfl ?_ ?_
      | refine ld1_lit ?_
      | refine ldN_lit ?_
      | refine nw (fun n => ?_)
      | refine st_lit rfl ?_
      | refine need (by first | rfl | omega) ?_
      | (refine wr (fun z hz => ?_); (try rw [Int.tdiv_eq_ediv_of_nonneg (by omega)] at hz); rw [w64 (by omega) (by omega)] at hz; subst hz)
      | (refine zv (fun z hz => ?_); (try rw [Int.tmod_eq_emod_of_nonneg (by omega)] at hz); subst hz)
      | (refine ifs (fun h => ?_) (fun h => ?_) <;> (try (exfalso; first | omega | with_reducible contradiction | with_reducible exact h rfl))))
  all_goals (conv => whnf)
  · exact fin_right (K := [_, _]) (fin_all ⟨ret_bool rfl, rfl⟩)
  · exact fin_all ⟨_, 0, rfl, by omega, rfl, rfl⟩
  rotate_left
  · exact fin_right (K := [_, _]) (fin_all ⟨ret_bool rfl, rfl⟩)
  rintro vs junk2 M' m ⟨x, rfl, hx, rfl, rfl⟩
  by_cases hxq : x < q
  · have hnx := hG'.2.2.1 x (by omega)
    obtain ⟨gx, v0, v1, v2, v3, d0, d1, d2, d3, lx, hat, hgx, e0, e1, e2, e3, f0, f1, f2, f3⟩ : ∃ (gx : Int) (v0 v1 v2 v3 d0 d1 d2 d3 : Bool) (lx : Int), Fnc Try.prog 13 [pt r, .int .i64 x] [tB r q s'] (Ret (.tuple #[.agg #[.int .i64 gx, .bool v0, .bool v1, .bool v2, .bool v3, .bool d0, .bool d1, .bool d2, .bool d3, .int .i64 lx], .int .i64 0]) [tB r q s']) ∧ gx = (s' x).g ∧
        (d0 = true → v0 = true) ∧ (d1 = true → v1 = true) ∧ (d2 = true → v2 = true) ∧ (d3 = true → v3 = true) ∧ (gx < 0 → v0 = false) ∧ (gx < 0 → v1 = false) ∧ (gx < 0 → v2 = false) ∧ (gx < 0 → v3 = false) :=
      ⟨_, _, _, _, _, _, _, _, _, _, at_in r q x s' (by omega) (by omega), rfl, hnx.1 0 (by omega), hnx.1 1 (by omega), hnx.1 2 (by omega), hnx.1 3 (by omega), fun h => hnx.2 h 0 (by omega), fun h => hnx.2 h 1 (by omega), fun h => hnx.2 h 2 (by omega), fun h => hnx.2 h 3 (by omega)⟩
    repeat' ((conv => whnf); first
        | (refine nv (fun z hz => ?_); (try simp at hz); replace hz := hz.symm; subst hz)
        | refine call_ret hat (.cons .here .nil) ?_
        | refine loop_rule [13] (fun vs M m => ∃ p : Nat, vs = [.int .i64 p] ∧ p ≤ 4 ∧ m = 4 - p ∧ M = [⟨n, .cells [.int .i64 gx, .bool v0, .bool v1, .bool v2, .bool v3, .bool d0, .bool d1, .bool d2, .bool d3, .int .i64 lx] 38⟩, tB r q s', lb g' q s' junk', ⟨b, .ro off (aLs l)⟩]) rfl ?_ ?_
        | refine ld1_lit ?_
        | refine ldN_lit ?_
        | refine nw (fun n => ?_)
        | refine st_lit rfl ?_
        | refine need (by first | rfl | omega) ?_
        | (refine wr (fun z hz => ?_); (try rw [Int.tdiv_eq_ediv_of_nonneg (by omega)] at hz); rw [w64 (by omega) (by omega)] at hz; subst hz)
        | (refine zv (fun z hz => ?_); (try rw [Int.tmod_eq_emod_of_nonneg (by omega)] at hz); subst hz)
        | (refine ifs (fun h => ?_) (fun h => ?_) <;> (try (exfalso; first | omega | with_reducible contradiction | with_reducible exact h rfl))))
    all_goals (conv => whnf)
    · exact fin_all ⟨_, 0, rfl, by omega, rfl, rfl⟩
    rintro vs junk3 M' m ⟨p, rfl, hp, rfl, rfl⟩
    have hcase : p = 0 ∨ p = 1 ∨ p = 2 ∨ p = 3 ∨ p = 4 := by omega
    rcases hcase with rfl | rfl | rfl | rfl | rfl
    · cases d0 <;> cases v0 <;> try (exact absurd (e0 rfl) (by decide))
      all_goals repeat' ((conv => whnf); first
          | (refine nv (fun z hz => ?_); (try simp at hz); replace hz := hz.symm; subst hz)
          | exact absurd (f0 (by assumption)) (by decide)
          | refine ld1_lit ?_
          | refine ldN_lit ?_
          | refine nw (fun n => ?_)
          | refine st_lit rfl ?_
          | refine need (by first | rfl | omega) ?_
          | (refine wr (fun z hz => ?_); (try rw [Int.tdiv_eq_ediv_of_nonneg (by omega)] at hz); rw [w64 (by omega) (by omega)] at hz; subst hz)
          | (refine zv (fun z hz => ?_); (try rw [Int.tmod_eq_emod_of_nonneg (by omega)] at hz); subst hz)
          | (refine ifs (fun h => ?_) (fun h => ?_) <;> (try (exfalso; first | omega | with_reducible contradiction | with_reducible exact h rfl))))
      all_goals (conv => whnf)
      all_goals exact ⟨rfl, fin_all ⟨4 - 1, by omega, 1, rfl, by omega, rfl, rfl⟩⟩
    · cases d1 <;> cases v1 <;> try (exact absurd (e1 rfl) (by decide))
      all_goals repeat' ((conv => whnf); first
          | (refine nv (fun z hz => ?_); (try simp at hz); replace hz := hz.symm; subst hz)
          | exact absurd (f1 (by assumption)) (by decide)
          | refine ld1_lit ?_
          | refine ldN_lit ?_
          | refine nw (fun n => ?_)
          | refine st_lit rfl ?_
          | refine need (by first | rfl | omega) ?_
          | (refine wr (fun z hz => ?_); (try rw [Int.tdiv_eq_ediv_of_nonneg (by omega)] at hz); rw [w64 (by omega) (by omega)] at hz; subst hz)
          | (refine zv (fun z hz => ?_); (try rw [Int.tmod_eq_emod_of_nonneg (by omega)] at hz); subst hz)
          | (refine ifs (fun h => ?_) (fun h => ?_) <;> (try (exfalso; first | omega | with_reducible contradiction | with_reducible exact h rfl))))
      all_goals (conv => whnf)
      all_goals exact ⟨rfl, fin_all ⟨4 - 2, by omega, 2, rfl, by omega, rfl, rfl⟩⟩
    · cases d2 <;> cases v2 <;> try (exact absurd (e2 rfl) (by decide))
      all_goals repeat' ((conv => whnf); first
          | (refine nv (fun z hz => ?_); (try simp at hz); replace hz := hz.symm; subst hz)
          | exact absurd (f2 (by assumption)) (by decide)
          | refine ld1_lit ?_
          | refine ldN_lit ?_
          | refine nw (fun n => ?_)
          | refine st_lit rfl ?_
          | refine need (by first | rfl | omega) ?_
          | (refine wr (fun z hz => ?_); (try rw [Int.tdiv_eq_ediv_of_nonneg (by omega)] at hz); rw [w64 (by omega) (by omega)] at hz; subst hz)
          | (refine zv (fun z hz => ?_); (try rw [Int.tmod_eq_emod_of_nonneg (by omega)] at hz); subst hz)
          | (refine ifs (fun h => ?_) (fun h => ?_) <;> (try (exfalso; first | omega | with_reducible contradiction | with_reducible exact h rfl))))
      all_goals (conv => whnf)
      all_goals exact ⟨rfl, fin_all ⟨4 - 3, by omega, 3, rfl, by omega, rfl, rfl⟩⟩
    · cases d3 <;> cases v3 <;> try (exact absurd (e3 rfl) (by decide))
      all_goals repeat' ((conv => whnf); first
          | (refine nv (fun z hz => ?_); (try simp at hz); replace hz := hz.symm; subst hz)
          | exact absurd (f3 (by assumption)) (by decide)
          | refine ld1_lit ?_
          | refine ldN_lit ?_
          | refine nw (fun n => ?_)
          | refine st_lit rfl ?_
          | refine need (by first | rfl | omega) ?_
          | (refine wr (fun z hz => ?_); (try rw [Int.tdiv_eq_ediv_of_nonneg (by omega)] at hz); rw [w64 (by omega) (by omega)] at hz; subst hz)
          | (refine zv (fun z hz => ?_); (try rw [Int.tmod_eq_emod_of_nonneg (by omega)] at hz); subst hz)
          | (refine ifs (fun h => ?_) (fun h => ?_) <;> (try (exfalso; first | omega | with_reducible contradiction | with_reducible exact h rfl))))
      all_goals (conv => whnf)
      all_goals exact ⟨rfl, fin_all ⟨4 - 4, by omega, 4, rfl, by omega, rfl, rfl⟩⟩
    · repeat' ((conv => whnf); first
        | (refine nv (fun z hz => ?_); (try simp at hz); replace hz := hz.symm; subst hz)
        | refine loop_rule [14] (fun vs M m => ∃ y : Nat, vs = [.int .i64 y] ∧ y ≤ x ∧ m = x - y ∧ M = [⟨n, .cells [.int .i64 gx, .bool v0, .bool v1, .bool v2, .bool v3, .bool d0, .bool d1, .bool d2, .bool d3, .int .i64 lx] 38⟩, tB r q s', lb g' q s' junk', ⟨b, .ro off (aLs l)⟩]) rfl ?_ ?_
        | refine ld1_lit ?_
        | refine ldN_lit ?_
        | refine nw (fun n => ?_)
        | refine st_lit rfl ?_
        | refine need (by first | rfl | omega) ?_
        | (refine wr (fun z hz => ?_); (try rw [Int.tdiv_eq_ediv_of_nonneg (by omega)] at hz); rw [w64 (by omega) (by omega)] at hz; subst hz)
        | (refine zv (fun z hz => ?_); (try rw [Int.tmod_eq_emod_of_nonneg (by omega)] at hz); subst hz)
        | (refine ifs (fun h => ?_) (fun h => ?_) <;> (try (exfalso; first | omega | with_reducible contradiction | with_reducible exact h rfl))))
      all_goals (conv => whnf)
      · exact fin_all ⟨_, 0, rfl, by omega, rfl, rfl⟩
      rintro vs junk4 M' m ⟨y, rfl, hy, rfl, rfl⟩
      by_cases hyx : y < x
      · have hne := hG'.2.2.2 x y (by omega) (by omega) (by omega)
        repeat' ((conv => whnf); first
            | (refine nv (fun z hz => ?_); (try simp at hz); replace hz := hz.symm; subst hz)
            | refine call_ret (at_in r q y s' (by omega) (by omega)) (.cons (by first | exact .here | exact .there .here | exact .there (.there .here) | exact .there (.there (.there .here)) | exact .there (.there (.there (.there .here)))) .nil) ?_
            | refine ld1_lit ?_
            | refine ldN_lit ?_
            | refine nw (fun n => ?_)
            | refine st_lit rfl ?_
            | refine need (by first | rfl | omega) ?_
            | (refine wr (fun z hz => ?_); (try rw [Int.tdiv_eq_ediv_of_nonneg (by omega)] at hz); rw [w64 (by omega) (by omega)] at hz; subst hz)
            | (refine zv (fun z hz => ?_); (try rw [Int.tmod_eq_emod_of_nonneg (by omega)] at hz); subst hz)
            | (refine ifs (fun h => ?_) (fun h => ?_) <;> (try (exfalso; first | omega | with_reducible contradiction | with_reducible exact h rfl))))
        all_goals (conv => whnf)
        all_goals exact ⟨rfl, fin_pick (A' := [⟨_, .cells [.int .i64 gx, .bool v0, .bool v1, .bool v2, .bool v3, .bool d0, .bool d1, .bool d2, .bool d3, .int .i64 lx] 38⟩, tB r q s', lb g' q s' junk', ⟨b, .ro off (aLs l)⟩]) (.cons (by first | exact .here | exact .there .here | exact .there (.there .here) | exact .there (.there (.there .here)) | exact .there (.there (.there (.there .here)))) (.cons (by first | exact .here | exact .there .here | exact .there (.there .here) | exact .there (.there (.there .here)) | exact .there (.there (.there (.there .here)))) (.cons (by first | exact .here | exact .there .here | exact .there (.there .here) | exact .there (.there (.there .here)) | exact .there (.there (.there (.there .here)))) (.cons (by first | exact .here | exact .there .here | exact .there (.there .here) | exact .there (.there (.there .here)) | exact .there (.there (.there (.there .here)))) .nil)))) ⟨x - (y + 1), by omega, y + 1, rfl, by omega, rfl, rfl⟩⟩
      · obtain rfl : y = x := by omega
        repeat' ((conv => whnf); first
            | (refine nv (fun z hz => ?_); (try simp at hz); replace hz := hz.symm; subst hz)
            | refine ld1_lit ?_
            | refine ldN_lit ?_
            | refine nw (fun n => ?_)
            | refine st_lit rfl ?_
            | refine need (by first | rfl | omega) ?_
            | (refine wr (fun z hz => ?_); (try rw [Int.tdiv_eq_ediv_of_nonneg (by omega)] at hz); rw [w64 (by omega) (by omega)] at hz; subst hz)
            | (refine zv (fun z hz => ?_); (try rw [Int.tmod_eq_emod_of_nonneg (by omega)] at hz); subst hz)
            | (refine ifs (fun h => ?_) (fun h => ?_) <;> (try (exfalso; first | omega | with_reducible contradiction | with_reducible exact h rfl))))
        all_goals (conv => whnf)
        exact ⟨rfl, fin_pick (A' := [tB r q s', lb g' q s' junk', ⟨b, .ro off (aLs l)⟩]) (.cons (by first | exact .here | exact .there .here | exact .there (.there .here) | exact .there (.there (.there .here)) | exact .there (.there (.there (.there .here)))) (.cons (by first | exact .here | exact .there .here | exact .there (.there .here) | exact .there (.there (.there .here)) | exact .there (.there (.there (.there .here)))) (.cons (by first | exact .here | exact .there .here | exact .there (.there .here) | exact .there (.there (.there .here)) | exact .there (.there (.there (.there .here)))) .nil))) ⟨q - (y + 1), by omega, y + 1, rfl, by omega, rfl, rfl⟩⟩
  · obtain rfl : x = q := by omega
    repeat' ((conv => whnf); first
        | (refine nv (fun z hz => ?_); (try simp at hz); replace hz := hz.symm; subst hz)
        | refine ld1_lit ?_
        | refine ldN_lit ?_
        | refine nw (fun n => ?_)
        | refine st_lit rfl ?_
        | refine need (by first | rfl | omega) ?_
        | (refine wr (fun z hz => ?_); (try rw [Int.tdiv_eq_ediv_of_nonneg (by omega)] at hz); rw [w64 (by omega) (by omega)] at hz; subst hz)
        | (refine zv (fun z hz => ?_); (try rw [Int.tmod_eq_emod_of_nonneg (by omega)] at hz); subst hz)
        | (refine ifs (fun h => ?_) (fun h => ?_) <;> (try (exfalso; first | omega | with_reducible contradiction | with_reducible exact h rfl))))
    all_goals (conv => whnf)
    exact ⟨rfl, fin_pick (A' := [lb g' x s' junk', tB r x s', ⟨b, .ro off (aLs l)⟩]) (.cons (by first | exact .here | exact .there .here | exact .there (.there .here) | exact .there (.there (.there .here)) | exact .there (.there (.there (.there .here)))) (.cons (by first | exact .here | exact .there .here | exact .there (.there .here) | exact .there (.there (.there .here)) | exact .there (.there (.there (.there .here)))) (.cons (by first | exact .here | exact .there .here | exact .there (.there .here) | exact .there (.there (.there .here)) | exact .there (.there (.there (.there .here)))) .nil))) ⟨l.length - (i + 1), by omega, i + 1, g', cap', s', junk', rfl, hG', by omega, by omega, rfl, rfl⟩⟩
end Go.Proofs.Ytlmhagngbfcdkaa.Slots
