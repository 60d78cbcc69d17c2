/- The document's lists of slots. -/
import Derived.Test.YtlmhagngbfcdkaaSl5
namespace Go.Proofs.Ytlmhagngbfcdkaa.Slots
open Go Ev Be
set_option linter.unusedVariables false
set_option linter.unusedSimpArgs false
set_option maxRecDepth 100000
/-- A list of n slots, at the head of a row. -/
abbrev lb (g n : Nat) (s : Nat → Sl10) (junk : List Value) : Blk := ⟨g, .row (rl n s ++ junk) 38⟩
abbrev lv (g n cap : Nat) : Value := .slice (some ⟨g, 0, none⟩) n cap
theorem ll_get {n i k : Nat} {s : Nat → Sl10} {junk : List Value} (hi : i < n) (hk : k < 10) : (rl n s ++ junk)[i * 10 + k]? = (sc (s i))[k]? := by
  rw [List.getElem?_append_left (by rw [rl_len]; omega), rl_get hi hk]
theorem ll_part {n i : Nat} {s : Nat → Sl10} {junk : List Value} (hi : i < n) : ((rl n s ++ junk).drop (i * 10)).take 10 = sc (s i) := by
  rw [List.drop_append_of_le_length (by rw [rl_len]; omega), List.take_append_of_le_length (by rw [List.length_drop, rl_len]; omega), rl_part hi]
theorem ll_set {n i : Nat} {s : Nat → Sl10} {junk : List Value} {x : Sl10} (hi : i < n) : (rl n s ++ junk).take (i * 10) ++ sc x ++ (rl n s ++ junk).drop (i * 10 + 10) = rl n (upd s i x) ++ junk := by
  rw [List.take_append_of_le_length (by rw [rl_len]; omega), List.drop_append_of_le_length (by rw [rl_len]; omega), ← List.append_assoc, rl_set hi]
theorem rl_one (n : Nat) (s : Nat → Sl10) : ∀ u ∈ rl n s, u.oneCell' = true := by
  intro u hu
  unfold rl at hu
  obtain ⟨l, hl, hu⟩ := List.mem_flatten.1 hu
  obtain ⟨i, _, rfl⟩ := List.mem_map.1 hl
  exact sc_one _ u hu
attribute [local irreducible] rl tc bu biX rowI rowE rowS padE padS convert Builtin.copy_ Builtin.append_ Instr.makeSlice
theorem rfind (g n cap : Nat) (s : Nat → Sl10) (junk : List Value) (grp : Int) (hn : n ≤ 8) (k : Nat) (hk : IsF (fun j => (s j).g = grp ∧ 0 ≤ grp) n k) :
    Fnc Try.prog 31 [lv g n cap, .int .i64 grp] [lb g n s junk] (Ret (.int .i64 (if k < n then (k : Int) else -1)) [lb g n s junk]) := by
  have hkn := hk.1
  refine fn_intro Try.func31 (by kernel_rfl) ?_
  repeat' ((conv => whnf); first
      | refine loop_rule [5] (fun vs M m => ∃ i : Nat, vs = [.int .i64 i] ∧ i ≤ k ∧ m = n - i ∧ M = [lb g n s junk]) rfl ?_ ?_
      | refine ld1_lit ?_
      | refine ldN_lit ?_
      | refine nw (fun n => ?_)
      | refine st_lit rfl ?_
      | refine need (by first | rfl | omega) ?_
      | (refine wr (fun z hz => ?_); (try rw [Int.tdiv_eq_ediv_of_nonneg (by omega)] at hz); rw [w64 (by omega) (by omega)] at hz; subst hz)
      | (refine zv (fun z hz => ?_); (try rw [Int.tmod_eq_emod_of_nonneg (by omega)] at hz); subst hz)
      | (refine ifs (fun h => ?_) (fun h => ?_) <;> (try (exfalso; first | omega | with_reducible contradiction | with_reducible exact h rfl))))
  · exact fin_all ⟨_, 0, rfl, by omega, rfl, rfl⟩
  rintro vs junk' M' m ⟨i, rfl, hi, rfl, rfl⟩
  repeat' ((conv => whnf); first
      | (refine nv (fun z hz => ?_); (try simp at hz); replace hz := hz.symm; subst hz)
      | refine ld1_row (v := .int .i64 (s i).g) (ll_get (k := 0) (by omega) (by omega)) ?_
      | refine ld1_lit ?_
      | refine ldN_lit ?_
      | refine nw (fun n => ?_)
      | refine st_lit rfl ?_
      | refine need (by first | rfl | omega) ?_
      | (refine wr (fun z hz => ?_); (try rw [Int.tdiv_eq_ediv_of_nonneg (by omega)] at hz); rw [w64 (by omega) (by omega)] at hz; subst hz)
      | (refine zv (fun z hz => ?_); (try rw [Int.tmod_eq_emod_of_nonneg (by omega)] at hz); subst hz)
      | (refine ifs (fun h => ?_) (fun h => ?_) <;> (try (exfalso; first | omega | with_reducible contradiction | with_reducible exact h rfl))))
  all_goals (conv => whnf)
  · obtain rfl : k = i := isF_eq hk hi (by omega) ⟨by assumption, by assumption⟩
    rw [if_pos (by omega)]
    exact fin_all ⟨rfl, rfl⟩
  · exact ⟨rfl, fin_all ⟨n - (i + 1), by omega, i + 1, rfl, isF_ne hk hi (by omega) (fun hc => absurd hc.2 (by assumption)), rfl, rfl⟩⟩
  · exact ⟨rfl, fin_all ⟨n - (i + 1), by omega, i + 1, rfl, isF_ne hk hi (by omega) (fun hc => absurd hc.1 (by assumption)), rfl, rfl⟩⟩
  · rw [if_neg (by omega)]
    exact fin_all ⟨rfl, rfl⟩
theorem src_ll {M : List Blk} {g : Nat} {l junk : List Value} {t : TypeId} [h : Look M g (.row (l ++ junk) t)] : ∀ A w0 w, St A w0 w M → ∀ j v, l[j]? = some v → w.cell? ⟨g, 0 + j, none⟩ = some v :=
  fun A w0 w st => row_at (st.has _ h.mem) (by rw [List.drop_zero, List.take_append_of_le_length (Nat.le_refl _), List.take_length])
theorem fin_two {M : List Blk} {b c : Blk} {L R : List Blk} {Q : List Blk → Prop} (e : M = b :: (L ++ c :: R)) (h : Q [b, c]) : Ev.Fin M Q := by
  subst e
  refine ⟨⟨[b, c], L ++ R, ?_, h⟩⟩
  exact List.Perm.cons _ List.perm_middle
instance Own_zip {M : List Blk} {g cap : Nat} {junk xs : List Value} {e : TypeId} : Zip ((Own.at_ g cap junk).blk e xs ++ M) g (.row (xs ++ junk) e) (fun b => b :: M) := ⟨⟨[], M, rfl, fun _ => rfl⟩⟩
theorem st_ll {P : Program} {M : List Blk} {g q i : Nat} {s : Nat → Sl10} {junk : List Value} (x : Sl10) {T : TypeId} {f : Blk → List Blk} {K : List Blk → Prop} [z : Zip M g (.row (([] ++ rl q s) ++ junk) T) f] (hi : i < q) (hk : K (f ⟨g, .row (rl q (upd s i x) ++ junk) T⟩)) : StN P M g (i * 10) (sc x) K :=
  st_rowN (sc_one x) (by rw [List.nil_append, List.length_append, rl_len, sc_len]; omega) (by rw [List.nil_append, sc_len, ll_set hi]; exact hk)
theorem rset (g q cap i : Nat) (s : Nat → Sl10) (junk : List Value) (x : Sl10) (hq : q ≤ 8) (hi : i < q) :
    Fnc Try.prog 30 [lv g q cap, .int .i64 i, .agg (sc x).toArray] [lb g q s junk] (fun e A => ∃ g' cap' junk', e = .returned (lv g' q cap') ∧ A = [lb g' q (upd s i x) junk', lb g q s junk]) := by
  refine fn_intro Try.func30 (by kernel_rfl) ?_
  repeat' ((conv => whnf); first
      | refine mk_nil rfl rfl rfl (fun S hS => ?_)
      | refine app_wide (S := S) (n := 0) (m := q) (sz := 10) (e := 38) (xs := []) (news := rl q s) rfl rfl rfl rfl rfl hS (rl_len q s) (by omega) (rl_one q s) (by show (0 + q) * 24 ≤ _; omega) (by omega) src_ll (fun S' hS' => ?_)
      | refine st_ll (i := i) x hi ?_
      | (rcases S' with _ | ⟨g', cap', junk'⟩; (exfalso; have := hS'.2; simp at this; omega))
      | (refine nv (fun z hz => ?_); (try simp at hz); replace hz := hz.symm; subst hz)
      | refine ld1_lit ?_
      | refine ldN_lit ?_
      | refine nw (fun n => ?_)
      | refine st_lit rfl ?_
      | refine need (by first | rfl | omega) ?_
      | (refine wr (fun z hz => ?_); (try rw [Int.tdiv_eq_ediv_of_nonneg (by omega)] at hz); rw [w64 (by omega) (by omega)] at hz; subst hz)
      | (refine zv (fun z hz => ?_); (try rw [Int.tmod_eq_emod_of_nonneg (by omega)] at hz); subst hz)
      | (refine ifs (fun h => ?_) (fun h => ?_) <;> (try (exfalso; first | omega | with_reducible contradiction | with_reducible exact h rfl))))
  all_goals (conv => whnf)
  exact fin_two (L := [_]) (R := []) rfl ⟨g', cap', junk', by rw [Nat.zero_add]; rfl, rfl⟩
theorem rnew (N : Nat) (h : 1 ≤ N) (h8 : N ≤ 8) : Fnc Try.prog 10 [.int .i64 N] [] (fun e A => ∃ g cap junk, e = .returned (lv g N cap) ∧ A = [lb g N (fun _ => freeS) junk]) := by
  refine fn_intro Try.func10 (by kernel_rfl) ?_
  repeat' ((conv => whnf); first
      | refine loop_rule [4, 3] (fun vs M m => ∃ (i : Nat) (R : Own), vs = [.int .i64 i, R.val i] ∧ i ≤ N ∧ R.ok 10 i (rl i (fun _ => freeS)) ∧ m = N - i ∧ M = R.blk 38 (rl i (fun _ => freeS))) rfl ?_ ?_
      | refine ld1_lit ?_
      | refine ldN_lit ?_
      | refine nw (fun n => ?_)
      | refine st_lit rfl ?_
      | refine need (by first | rfl | omega) ?_
      | (refine wr (fun z hz => ?_); (try rw [Int.tdiv_eq_ediv_of_nonneg (by omega)] at hz); rw [w64 (by omega) (by omega)] at hz; subst hz)
      | (refine zv (fun z hz => ?_); (try rw [Int.tmod_eq_emod_of_nonneg (by omega)] at hz); subst hz)
      | (refine ifs (fun h => ?_) (fun h => ?_) <;> (try (exfalso; first | omega | with_reducible contradiction | with_reducible exact h rfl))))
  · exact fin_all ⟨_, 0, .nil, rfl, by omega, ⟨by rw [rl_len], rfl⟩, rfl, rfl⟩
  rintro vs junk M' m ⟨i, R, rfl, hi, hR, rfl, rfl⟩
  repeat' ((conv => whnf); first
      | refine app_wide (S := R) (n := i) (m := 1) (sz := 10) (e := 38) (xs := rl i (fun _ => freeS)) (news := sc freeS) rfl rfl rfl rfl rfl hR rfl (by omega) (sc_one _) (by show (i + 1) * 24 ≤ _; omega) (by omega) (Ev.cells_from rfl) (fun R' hR' => ?_)
      | refine ld1_lit ?_
      | refine ldN_lit ?_
      | refine nw (fun n => ?_)
      | refine st_lit rfl ?_
      | refine need (by first | rfl | omega) ?_
      | (refine wr (fun z hz => ?_); (try rw [Int.tdiv_eq_ediv_of_nonneg (by omega)] at hz); rw [w64 (by omega) (by omega)] at hz; subst hz)
      | (refine zv (fun z hz => ?_); (try rw [Int.tmod_eq_emod_of_nonneg (by omega)] at hz); subst hz)
      | (refine ifs (fun h => ?_) (fun h => ?_) <;> (try (exfalso; first | omega | with_reducible contradiction | with_reducible exact h rfl))))
  all_goals (conv => whnf)
  · refine ⟨rfl, fin_drop (fin_all ⟨N - (i + 1), by omega, i + 1, R', rfl, by omega, ?_, rfl, ?_⟩)⟩
    · rw [rl_succ]; exact hR'
    · rw [rl_succ]
  · obtain rfl : i = N := by omega
    rcases R with _ | ⟨g, cap, junk⟩
    · exfalso
      have := hR.2
      simp at this
      omega
    · exact fin_all ⟨g, cap, junk, rfl, rfl⟩
theorem rbusy' (g lv : Int) (v0 v1 v2 v3 d0 d1 d2 d3 : Bool) : Fnc Try.prog 29 [.agg #[.int .i64 g, .bool v0, .bool v1, .bool v2, .bool v3, .bool d0, .bool d1, .bool d2, .bool d3, .int .i64 lv]] [] (Ret (.bool (d0 || d1 || d2 || d3)) []) := by
  refine fn_intro Try.func29 (by kernel_rfl) ?_
  cases d0 <;> cases d1 <;> cases d2 <;> cases d3
  all_goals repeat' ((conv => whnf); first
      | refine loop_n 5 ?_
      | (refine nv (fun z hz => ?_); (try simp at hz); replace hz := hz.symm; subst hz)
      | refine ld1_lit ?_
      | refine ldN_lit ?_
      | refine nw (fun n => ?_)
      | refine st_lit rfl ?_
      | refine need (by first | rfl | omega) ?_
      | (refine wr (fun z hz => ?_); (try rw [Int.tdiv_eq_ediv_of_nonneg (by omega)] at hz); rw [w64 (by omega) (by omega)] at hz; subst hz)
      | (refine zv (fun z hz => ?_); (try rw [Int.tmod_eq_emod_of_nonneg (by omega)] at hz); subst hz)
      | (refine ifs (fun h => ?_) (fun h => ?_) <;> (try (exfalso; first | omega | with_reducible contradiction | with_reducible exact h rfl)))
      | refine fin_nil ⟨?_, rfl⟩)
  all_goals rfl
theorem rbusy (x : Sl10) : Fnc Try.prog 29 [.agg (sc x).toArray] [] (Ret (.bool (busyB x)) []) := rbusy' _ _ _ _ _ _ _ _ _ _
end Go.Proofs.Ytlmhagngbfcdkaa.Slots
