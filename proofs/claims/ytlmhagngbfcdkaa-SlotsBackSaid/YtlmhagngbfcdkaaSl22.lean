/- The law SlotsBack: a table comes back from its bytes. -/
import Derived.Test.YtlmhagngbfcdkaaSl17
import Derived.Test.YtlmhagngbfcdkaaSl21
namespace Go.Proofs.Ytlmhagngbfcdkaa.Slots
open Go Ev Be
set_option linter.unusedVariables false
set_option linter.unusedSimpArgs false
set_option maxRecDepth 100000
theorem tc_one (N : Int) (s : Nat → Sl10) : ∀ u ∈ tc N s, u.oneCell' = true := by
  intro u hu
  unfold tc at hu
  rcases List.mem_cons.1 hu with rfl | hu
  · rfl
  · exact rl_one _ _ u hu
theorem takes_more {M A R : List Blk} (h : Takes M A R) (b : Blk) : Takes (b :: M) A (b :: R) := by
  induction h with
  | nil => exact .nil
  | cons h hs ih => exact .cons (.there h) ih
theorem takes_id : ∀ M : List Blk, Takes M M []
  | [] => .nil
  | b :: M => .cons .here (takes_id M)
theorem two_ways {α : Type} (l : List α) (i n : Nat) : (l.length ≤ i ∨ n ≤ i) ∨ ∃ a, l[i]? = some a ∧ i < n := by
  by_cases h : i < l.length ∧ i < n
  · exact .inr ⟨_, List.getElem?_eq_getElem h.1, h.2⟩
  · exact .inl (by omega)
section
attribute [local irreducible] convert Builtin.copy_ Builtin.append_ Instr.makeSlice
theorem copy0 (r q : Nat) (s : Nat → Sl10) : Fnc Try.prog 22 [pt r] [tB r q s] (fun e A => ∃ r2, e = .returned (pt r2) ∧ A = [⟨r2, .cells (tc q s) 59⟩, tB r q s]) := by
  refine fn_intro Try.func22 (by kernel_rfl) ?_
  repeat' ((conv => whnf); first
      | refine ldN_row (tc q s) (by rw [List.drop_zero, List.take_length]) (by rw [tc_len]; rfl) ?_
      | refine ld1_lit ?_
      | refine ldN_lit ?_
      | refine nw (fun n => ?_)
      | refine st_lit rfl ?_
      | refine need (by first | rfl | omega) ?_
      | (refine wr (fun z hz => ?_); (try rw [Int.tdiv_eq_ediv_of_nonneg (by omega)] at hz); rw [w64 (by omega) (by omega)] at hz; subst hz)
      | (refine zv (fun z hz => ?_); (try rw [Int.tmod_eq_emod_of_nonneg (by omega)] at hz); subst hz)
      | (refine ifs (fun h => ?_) (fun h => ?_) <;> (try (exfalso; first | omega | with_reducible contradiction | with_reducible exact h rfl))))
  all_goals (conv => whnf)
  exact fin_all ⟨_, rfl, rfl⟩
theorem copy (r q : Nat) (s : Nat → Sl10) : Fnc Try.prog 22 [pt r] [tB r q s] (fun e A => ∃ r2, e = .returned (pt r2) ∧ A = [tB r2 q s, tB r q s]) := by
  have := (copy0 r q s).out
  delta Fnc
  refine ⟨this.1, fun w hm => (this.2 w hm).mono fun e w' ⟨A', s1, r2, he, hA⟩ => ?_⟩
  subst hA
  exact ⟨_, St_swap (L := []) (n := r2) (o := .cells (tc q s) 59) (o' := .row (tc q s) 59) s1 rfl (fun h => h), r2, he, rfl⟩
end
attribute [local irreducible] rl tc bu biX rowI rowE rowS padE padS by1 pw full sBy cnt bt slB S48 aLs convert Builtin.copy_ Builtin.append_ Instr.makeSlice
set_option maxHeartbeats 8000000 in
theorem slotsBack (u : Int) (l l2 : List Act6) (S S2 : Sl) (h0 : 0 ≤ u) (h1 : u ≤ 255) (hS : S.ok l.length) (hS2 : S2.ok l2.length) (hl : l.length ≤ 9223372036854775807) (hl2 : l2.length ≤ 9223372036854775807) (L : List Blk)
    (hL : ∀ b off cap, S = .at_ b off cap → (⟨b, .ro off (aLs l)⟩ : Blk) ∈ L) (hL2 : ∀ b off cap, S2 = .at_ b off cap → (⟨b, .ro off (aLs l2)⟩ : Blk) ∈ L) :
    Fnc Try.prog 7 [.int .u8 u, S.val l.length, S2.val l2.length] L (Ret (.bool true) L) := by
  obtain ⟨q, hq⟩ := Int.eq_ofNat_of_zero_le (show 0 ≤ u % 8 + 1 by omega)
  have hq1 : 1 ≤ q := by omega
  have hq8 : q ≤ 8 := by omega
  have hnew : Fnc Try.prog 8 [.int .i64 (u % 8 + 1)] [] (fun e A => ∃ r, e = .returned (.tuple #[pt r, .int .i64 0]) ∧ A = [tB r q (fun _ => freeS)]) := by
    rw [hq]
    have h := new_in q hq1 hq8
    simp only [tB_free] at h
    exact h
  have hrnew : Fnc Try.prog 10 [.int .i64 (u % 8 + 1)] [] (fun e A => ∃ g cap junk, e = .returned (lv g q cap) ∧ A = [lb g q (fun _ => freeS) junk]) := by
    rw [hq]
    exact rnew q hq1 hq8
  have hread : ∀ c, Fnc Try.prog 23 [.int .i64 (u % 8 + 1), .string (S48 c)] [] (RdQ c q) := by
    rw [hq]
    exact fun c => read_ c q hq1 hq8
  refine fn_intro Try.func7 (by kernel_rfl) ?_
  repeat' ((conv => whnf); first
      | (refine nv (fun z hz => ?_); (try simp at hz); replace hz := hz.symm; subst hz)
      | (refine call_fn hnew .nil (fun e A' hq => ?_); obtain ⟨r, h1, h2⟩ := hq; subst h1; subst h2)
      | refine call_val awake ?_
      | (refine call_fn hrnew .nil (fun e A' hq => ?_); obtain ⟨g, cap, junk, h1, h2⟩ := hq; subst h1; subst h2)
      | refine loop_rule [10, 11] (fun vs M m => ∃ (i g cap : Nat) (s : Nat → Sl10) (junk : List Value), vs = [lv g q cap, .int .i64 i] ∧ Good q s ∧ i ≤ l.length ∧ i ≤ 40 ∧ m = l.length - i ∧ M = lb g q s junk :: tB r q s :: L) rfl ?_ ?_
      | refine ld1_lit ?_
      | refine ldN_lit ?_
      | refine nw (fun n => ?_)
      | refine st_lit rfl ?_
      | refine need (by first | rfl | omega) ?_
      | (refine wr (fun z hz => ?_); (try rw [Int.tdiv_eq_ediv_of_nonneg (by omega)] at hz); rw [w64 (by omega) (by omega)] at hz; subst hz)
      | (refine zv (fun z hz => ?_); (try rw [Int.tmod_eq_emod_of_nonneg (by omega)] at hz); subst hz)
      | (refine ifs (fun h => ?_) (fun h => ?_) <;> (try (exfalso; first | omega | with_reducible contradiction | with_reducible exact h rfl))))
  all_goals (conv => whnf)
  · exact fin_all ⟨_, 0, g, cap, _, junk, rfl, good_free q, by omega, by omega, rfl, rfl⟩
  rintro vs junk1 M' m ⟨i, g, cap, s, junk, rfl, hG, hi, hi5, rfl, rfl⟩
  by_cases hin : i < l.length ∧ i < 40
  · obtain ⟨a, hxi⟩ : ∃ a, l[i]? = some a := ⟨_, List.getElem?_eq_getElem hin.1⟩
    rcases S with ⟨p, c⟩ | ⟨b, off, cap9⟩
    · exfalso; have hS : l.length = 0 := hS; omega
    haveI hlk : Look L b (.ro off (aLs l)) := ⟨hL b off cap9 rfl⟩
    repeat' ((conv => whnf); first
        | (refine nv (fun z hz => ?_); (try simp at hz); replace hz := hz.symm; subst hz)
        | refine ldN_ro (o := off) (cs := aLs l) (q := i * 6) (aL a) rfl (aL_at hxi) rfl ?_
        | (refine call_fn (do_ r g q cap s junk a.k a.g a.s a.p a.v a.d (by omega) hG) (.cons takeC (.cons takeC .nil)) (fun e A' hq' => ?_); obtain ⟨s', g', cap', junk', hG', h1, h2⟩ := hq'; subst h1; subst h2)
        | refine ld1_lit ?_
        | refine ldN_lit ?_
        | refine nw (fun n => ?_)
        | refine st_lit rfl ?_
        | refine need (by first | rfl | omega) ?_
        | (refine wr (fun z hz => ?_); (try rw [Int.tdiv_eq_ediv_of_nonneg (by omega)] at hz); rw [w64 (by omega) (by omega)] at hz; subst hz)
        | (refine zv (fun z hz => ?_); (try rw [Int.tmod_eq_emod_of_nonneg (by omega)] at hz); subst hz)
        | (refine ifs (fun h => ?_) (fun h => ?_) <;> (try (exfalso; first | omega | with_reducible contradiction | with_reducible exact h rfl))))
    all_goals (conv => whnf)
    exact ⟨rfl, fin_pick (A' := lb g' q s' junk' :: tB r q s' :: L) (.cons takeC (.cons takeC (takes_id _))) ⟨l.length - (i + 1), by omega, i + 1, g', cap', s', junk', rfl, hG', by omega, by omega, rfl, rfl⟩⟩
  · clear hL
    obtain ⟨c, hc, hsc, hR⟩ := back hq8 hG
    have hRA : RA c q := ⟨hR, by rw [sBy_congr hsc, hc]⟩
    have htB : ∀ rx, tB rx q (slB c) = tB rx q s := fun rx => by unfold tB; rw [tc_congr hsc]
    have hbytes := bytes r q s hG.2.1
    rw [hc] at hbytes
    repeat' ((conv => whnf); first
        | (refine nv (fun z hz => ?_); (try simp at hz); replace hz := hz.symm; subst hz)
        | refine call_ret hbytes (.cons takeC .nil) ?_
        | (refine call_fn (hread c) .nil (fun e A' hq => ?_); rcases hq with ⟨_, rx, rfl, rfl⟩ | ⟨hno, _⟩; rotate_left; exact absurd hRA hno; rw [htB rx])
        | (refine call_fn (copy r q s) (.cons takeC .nil) (fun e A' hq => ?_); obtain ⟨rc, rfl, rfl⟩ := hq)
        | refine call_ret (same rx g q cap s junk hq1 hq8 hG) (.cons takeC (.cons takeC .nil)) ?_
        | refine ld1_lit ?_
        | refine ldN_lit ?_
        | refine nw (fun n => ?_)
        | refine st_lit rfl ?_
        | refine need (by first | rfl | omega) ?_
        | (refine wr (fun z hz => ?_); (try rw [Int.tdiv_eq_ediv_of_nonneg (by omega)] at hz); rw [w64 (by omega) (by omega)] at hz; subst hz)
        | (refine zv (fun z hz => ?_); (try rw [Int.tmod_eq_emod_of_nonneg (by omega)] at hz); subst hz)
        | (refine ifs (fun h => ?_) (fun h => ?_) <;> (try (exfalso; first | omega | with_reducible contradiction | with_reducible exact h rfl))))
    all_goals (conv => whnf)
    all_goals refine loop_rule [16, 10] (fun vs M m => ∃ (i g' cap' : Nat) (s' st : Nat → Sl10), vs = [.int .i64 i, lv g' q cap'] ∧ Good q s' ∧ i ≤ l2.length ∧ i ≤ 20 ∧ m = l2.length - i ∧
      ((g' = g ∧ cap' = cap ∧ s' = s ∧ M = tB rx q s :: tB r q st :: tB rc q s :: lb g q s junk :: L) ∨ ∃ junk', M = lb g' q s' junk' :: tB rx q s' :: tB r q st :: tB rc q s :: lb g q s junk :: L)) rfl ?_ ?_
    all_goals first
      | exact fin_pick (A' := tB rx q s :: tB r q s :: tB rc q s :: lb g q s junk :: L) (.cons takeC (.cons takeC (.cons takeC (.cons takeC (takes_id _))))) ⟨_, 0, g, cap, s, s, rfl, hG, by omega, by omega, rfl, .inl ⟨rfl, rfl, rfl, rfl⟩⟩
      | skip
    all_goals (rintro vs junk3 M' m ⟨i2, g', cap', s', st, rfl, hG', hi2, hi20, rfl, hM⟩)
    all_goals obtain hge | ⟨a, hxi, h20⟩ := two_ways l2 i2 20
    all_goals first
      | (have hlt : i2 < l2.length := (List.getElem?_eq_some_iff.1 hxi).1; rcases S2 with ⟨p, c⟩ | ⟨b, off, cap9⟩; (exfalso; have hS : l2.length = 0 := hS2; omega); haveI hlk : Look L b (.ro off (aLs l2)) := ⟨hL2 b off cap9 rfl⟩)
      | skip
    all_goals rcases hM with ⟨rfl, rfl, rfl, rfl⟩ | ⟨junk', rfl⟩
    all_goals repeat' ((conv => whnf); first
        | (refine nv (fun z hz => ?_); (try simp at hz); replace hz := hz.symm; subst hz)
        | refine ldN_ro (o := off) (cs := aLs l2) (q := i2 * 6) (aL a) rfl (aL_at hxi) rfl ?_
        | (refine call_fn (doK rx g' q cap' s' junk a.k a.g a.s a.p a.v a.d hq8 hG') (.cons takeC (.cons takeC .nil)) (fun e A' hq' => ?_); obtain ⟨s9, g9, cap9', junk9, hG9, h1, h2⟩ := hq'; subst h1; rcases h2 with ⟨rfl, rfl, rfl, rfl, rfl⟩ | rfl)
        | (refine call_fn (doK rx g' q cap' s' junk' a.k a.g a.s a.p a.v a.d hq8 hG') (.cons takeC (.cons takeC .nil)) (fun e A' hq' => ?_); obtain ⟨s9, g9, cap9', junk9, hG9, h1, h2⟩ := hq'; subst h1; rcases h2 with ⟨rfl, rfl, rfl, rfl, rfl⟩ | rfl)
        | refine call_ret (same rx _ q _ _ _ hq1 hq8 (by assumption)) (.cons takeC (.cons takeC .nil)) ?_
        | refine call_ret (same rc _ q _ _ _ hq1 hq8 (by assumption)) (.cons takeC (.cons takeC .nil)) ?_
        | (refine call_fn (do2 r _ q _ st _ _ a.k a.g a.s a.p a.v a.d hq8) (.cons takeC (.cons takeC .nil)) (fun e A' hq' => ?_); obtain ⟨s8, w8, b8, rfl, rfl⟩ := hq')
        | refine ld1_lit ?_
        | refine ldN_lit ?_
        | refine nw (fun n => ?_)
        | refine st_lit rfl ?_
        | refine need (by first | rfl | omega) ?_
        | (refine wr (fun z hz => ?_); (try rw [Int.tdiv_eq_ediv_of_nonneg (by omega)] at hz); rw [w64 (by omega) (by omega)] at hz; subst hz)
        | (refine zv (fun z hz => ?_); (try rw [Int.tmod_eq_emod_of_nonneg (by omega)] at hz); subst hz)
        | (refine ifs (fun h => ?_) (fun h => ?_) <;> (try (exfalso; first | omega | with_reducible contradiction | with_reducible exact h rfl))))
    all_goals (conv => whnf)
    all_goals first
      | exact fin_drop (fin_drop (fin_drop (fin_drop (fin_all ⟨ret_bool rfl, rfl⟩))))
      | exact fin_drop (fin_drop (fin_drop (fin_drop (fin_drop (fin_all ⟨ret_bool rfl, rfl⟩)))))
      | exact ⟨rfl, fin_pick (A' := tB rx q s9 :: tB r q s8 :: tB rc q s9 :: lb g9 q s9 junk9 :: L) (.cons takeC (.cons takeC (.cons takeC (.cons takeC (takes_id _))))) ⟨l2.length - (i2 + 1), by omega, i2 + 1, g9, cap9', s9, s8, rfl, hG9, by omega, by omega, rfl, .inl ⟨rfl, rfl, rfl, rfl⟩⟩⟩
      | exact ⟨rfl, fin_pick (A' := lb g9 q s9 junk9 :: tB rx q s9 :: tB r q s8 :: tB rc q s :: lb g q s junk :: L) (.cons takeC (.cons takeC (.cons takeC (.cons takeC (.cons takeC (takes_id _)))))) ⟨l2.length - (i2 + 1), by omega, i2 + 1, g9, cap9', s9, s8, rfl, hG9, by omega, by omega, rfl, .inr ⟨junk9, rfl⟩⟩⟩
      | exact ⟨rfl, fin_pick (A' := lb g9 q s9 junk9 :: tB rx q s9 :: tB r q s8 :: tB rc q s :: lb g q s junk :: L) (.cons takeC (.cons takeC (.cons takeC (.cons takeC (.cons takeC (takes_more (takes_id _) _)))))) ⟨l2.length - (i2 + 1), by omega, i2 + 1, g9, cap9', s9, s8, rfl, hG9, by omega, by omega, rfl, .inr ⟨junk9, rfl⟩⟩⟩
      | exact ⟨rfl, fin_pick (A' := lb g9 q s9 junk9 :: tB rx q s9 :: tB r q s8 :: tB rc q s' :: lb g' q s' junk :: L) (.cons takeC (.cons takeC (.cons takeC (.cons takeC (.cons takeC (takes_id _)))))) ⟨l2.length - (i2 + 1), by omega, i2 + 1, g9, cap9', s9, s8, rfl, hG9, by omega, by omega, rfl, .inr ⟨junk9, rfl⟩⟩⟩
      | exact ⟨rfl, fin_pick (A' := lb g9 q s9 junk9 :: tB rx q s9 :: tB r q s8 :: tB rc q s' :: lb g' q s' junk :: L) (.cons takeC (.cons takeC (.cons takeC (.cons takeC (.cons takeC (takes_more (takes_id _) _)))))) ⟨l2.length - (i2 + 1), by omega, i2 + 1, g9, cap9', s9, s8, rfl, hG9, by omega, by omega, rfl, .inr ⟨junk9, rfl⟩⟩⟩
      | skip
    all_goals done
theorem ro_app {A B : List Blk} (ha : ∀ b ∈ A, b.ro = true) (hb : ∀ b ∈ B, b.ro = true) : ∀ b ∈ A ++ B, b.ro = true := fun b h => by
  rcases List.mem_append.1 h with h | h
  · exact ha b h
  · exact hb b h
theorem mem_app {w : World} {A B : List Blk} (ha : ∀ b ∈ A, b.ro = true) (hb : ∀ b ∈ B, b.ro = true) (h1 : Mem w A) (h2 : Mem w B) : Mem w (A ++ B) :=
  ⟨fun b h => by
    rcases List.mem_append.1 h with h | h
    · exact h1.1 b h
    · exact h2.1 b h, List.pairwise_append.2 ⟨h1.2, h2.2, fun a h3 b h4 _ => ⟨ha a h3, hb b h4⟩⟩⟩
end Go.Proofs.Ytlmhagngbfcdkaa.Slots
