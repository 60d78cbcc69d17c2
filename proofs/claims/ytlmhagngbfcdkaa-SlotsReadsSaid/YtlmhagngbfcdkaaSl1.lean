/- Tables of slots: the methods. -/
import Derived.Test.YtlmhagngbfcdkaaSlM
import Derived.Test.YtlmhagngbfcdkaaSlots3
namespace Go.Proofs.Ytlmhagngbfcdkaa.Slots
open Go Ev Be
set_option linter.unusedVariables false
set_option linter.unusedSimpArgs false
set_option maxRecDepth 100000
/-- The first of n that p holds of (n: none). -/
def IsF (p : Nat → Prop) (n k : Nat) : Prop := k ≤ n ∧ (∀ j, j < k → ¬ p j) ∧ (k < n → p k)
theorem isF_ex (p : Nat → Prop) (n : Nat) : ∃ k, IsF p n k := by
  induction n with
  | zero => exact ⟨0, Nat.le_refl _, fun j hj => absurd hj (by omega), fun h => absurd h (by omega)⟩
  | succ n ih =>
    obtain ⟨k, h1, h2, h3⟩ := ih
    by_cases hk : k < n
    · exact ⟨k, by omega, h2, fun _ => h3 hk⟩
    · have : k = n := by omega
      subst this
      by_cases hp : p k
      · exact ⟨k, by omega, h2, fun _ => hp⟩
      · refine ⟨k + 1, by omega, fun j hj => ?_, fun h => absurd h (by omega)⟩
        by_cases hjk : j = k
        · subst hjk; exact hp
        · exact h2 j (by omega)
theorem isF_eq {p : Nat → Prop} {n k i : Nat} (h : IsF p n k) (hi : i ≤ k) (hin : i < n) (hp : p i) : k = i := by
  by_cases hk : i < k
  · exact absurd hp (h.2.1 i hk)
  · omega
theorem isF_ne {p : Nat → Prop} {n k i : Nat} (h : IsF p n k) (hi : i ≤ k) (hin : i < n) (hp : ¬ p i) : i + 1 ≤ k := by
  by_cases hk : i = k
  · subst hk; exact absurd (h.2.2 hin) hp
  · omega
abbrev tB (r : Nat) (n : Int) (s : Nat → Sl10) : Blk := ⟨r, .row (tc n s) 59⟩
attribute [local irreducible] rl tc convert Builtin.copy_ Builtin.append_ Instr.makeSlice
theorem find_neg (r : Nat) (n g : Int) (s : Nat → Sl10) (h : g < 0) : Fnc Try.prog 15 [pt r, .int .i64 g] [tB r n s] (Ret (.tuple #[.int .i64 0, .bool false]) [tB r n s]) := by
  refine fn_intro Try.func15 (by kernel_rfl) ?_
  repeat' ((conv => whnf); first
      | exact fin_all ⟨rfl, rfl⟩
      | refine ld1_lit ?_
      | refine ldN_lit ?_
      | refine nw (fun n => ?_)
      | refine st_lit rfl ?_
      | refine need (by first | rfl | omega) ?_
      | (refine wr (fun z hz => ?_); (try rw [Int.tdiv_eq_ediv_of_nonneg (by omega)] at hz); rw [w64 (by omega) (by omega)] at hz; subst hz)
      | (refine zv (fun z hz => ?_); (try rw [Int.tmod_eq_emod_of_nonneg (by omega)] at hz); subst hz)
      | (refine ifs (fun h => ?_) (fun h => ?_) <;> (try (exfalso; first | omega | with_reducible contradiction | with_reducible exact h rfl))))
theorem find (r : Nat) (n g : Int) (s : Nat → Sl10) (k : Nat) (hg : 0 ≤ g) (hk : IsF (fun j => (s j).g = g) 8 k) :
    Fnc Try.prog 15 [pt r, .int .i64 g] [tB r n s] (Ret (if k < 8 then .tuple #[.int .i64 k, .bool true] else .tuple #[.int .i64 0, .bool false]) [tB r n s]) := by
  have hk8 := hk.1
  refine fn_intro Try.func15 (by kernel_rfl) ?_
  repeat' ((conv => whnf); first
      | refine ldN_row (rl 8 s) (by rw [rl_len]; exact tc_all n s) (rl_len 8 s) ?_
      | refine loop_rule [18] (fun vs M m => ∃ i : Nat, vs = [.int .i64 i] ∧ i ≤ k ∧ m = 8 - i ∧ M = [tB r n s]) rfl ?_ ?_
      | refine ld1_lit ?_
      | refine ldN_lit ?_
      | refine nw (fun n => ?_)
      | refine st_lit rfl ?_
      | refine need (by first | rfl | omega) ?_
      | (refine wr (fun z hz => ?_); (try rw [Int.tdiv_eq_ediv_of_nonneg (by omega)] at hz); rw [w64 (by omega) (by omega)] at hz; subst hz)
      | (refine zv (fun z hz => ?_); (try rw [Int.tmod_eq_emod_of_nonneg (by omega)] at hz); subst hz)
      | (refine ifs (fun h => ?_) (fun h => ?_) <;> (try (exfalso; first | omega | with_reducible contradiction | with_reducible exact h rfl))))
  · exact fin_all ⟨_, 0, rfl, by omega, rfl, rfl⟩
  rintro vs junk M' m ⟨i, rfl, hi, rfl, rfl⟩
  repeat' ((conv => whnf); first
      | (refine nv (fun z hz => ?_); (try simp at hz); replace hz := hz.symm; subst hz)
      | refine part_of' (l := rl 8 s) (q := i * 10) (m := 10) (r := sc (s i)) (rl_part (by omega)) rfl (by omega) ?_
      | refine ld1_lit ?_
      | refine ldN_lit ?_
      | refine nw (fun n => ?_)
      | refine st_lit rfl ?_
      | refine need (by first | rfl | omega) ?_
      | (refine wr (fun z hz => ?_); (try rw [Int.tdiv_eq_ediv_of_nonneg (by omega)] at hz); rw [w64 (by omega) (by omega)] at hz; subst hz)
      | (refine zv (fun z hz => ?_); (try rw [Int.tmod_eq_emod_of_nonneg (by omega)] at hz); subst hz)
      | (refine ifs (fun h => ?_) (fun h => ?_) <;> (try (exfalso; first | omega | with_reducible contradiction | with_reducible exact h rfl))))
  all_goals (conv => whnf)
  · obtain rfl : k = i := isF_eq hk hi (by omega) (by assumption)
    rw [if_pos (by omega)]
    exact fin_look r ⟨rfl, rfl⟩
  · exact ⟨rfl, fin_look r ⟨8 - (i + 1), by omega, i + 1, rfl, isF_ne hk hi (by omega) (by assumption), rfl, rfl⟩⟩
  · rw [if_neg (by omega)]
    exact fin_look r ⟨rfl, rfl⟩
theorem slot_out (r : Nat) (n i : Int) (s : Nat → Sl10) (h : i < 0 ∨ n ≤ i) : Fnc Try.prog 33 [pt r, .int .i64 i] [tB r n s] (Ret (.tuple #[.pointer none, .int .i64 3]) [tB r n s]) := by
  refine fn_intro Try.func33 (by kernel_rfl) ?_
  repeat' ((conv => whnf); first
      | refine ld1_row (tc_0 _ _) ?_
      | exact fin_all ⟨rfl, rfl⟩
      | refine ld1_lit ?_
      | refine ldN_lit ?_
      | refine nw (fun n => ?_)
      | refine st_lit rfl ?_
      | refine need (by first | rfl | omega) ?_
      | (refine wr (fun z hz => ?_); (try rw [Int.tdiv_eq_ediv_of_nonneg (by omega)] at hz); rw [w64 (by omega) (by omega)] at hz; subst hz)
      | (refine zv (fun z hz => ?_); (try rw [Int.tmod_eq_emod_of_nonneg (by omega)] at hz); subst hz)
      | (refine ifs (fun h => ?_) (fun h => ?_) <;> (try (exfalso; first | omega | with_reducible contradiction | with_reducible exact h rfl))))
theorem slot_in (r : Nat) (n : Int) (i : Nat) (s : Nat → Sl10) (h8 : n ≤ 8) (h : (i : Int) < n) : Fnc Try.prog 33 [pt r, .int .i64 i] [tB r n s]
    (Ret (if (s i).g < 0 then .tuple #[.pointer none, .int .i64 7] else .tuple #[.pointer (some ⟨r, 1 + i * 10, none⟩), .int .i64 0]) [tB r n s]) := by
  refine fn_intro Try.func33 (by kernel_rfl) ?_
  repeat' ((conv => whnf); first
      | refine ld1_row (tc_0 _ _) ?_
      | (refine nv (fun z hz => ?_); (try simp at hz); replace hz := hz.symm; subst hz)
      | refine ld1_row (v := .int .i64 (s i).g) (tc_get (k := 0) (by omega) (by omega)) ?_
      | refine ld1_lit ?_
      | refine ldN_lit ?_
      | refine nw (fun n => ?_)
      | refine st_lit rfl ?_
      | refine need (by first | rfl | omega) ?_
      | (refine wr (fun z hz => ?_); (try rw [Int.tdiv_eq_ediv_of_nonneg (by omega)] at hz); rw [w64 (by omega) (by omega)] at hz; subst hz)
      | (refine zv (fun z hz => ?_); (try rw [Int.tmod_eq_emod_of_nonneg (by omega)] at hz); subst hz)
      | (refine ifs (fun h => ?_) (fun h => ?_) <;> (try (exfalso; first | omega | with_reducible contradiction | with_reducible exact h rfl))))
  all_goals (conv => whnf)
  · rw [if_pos (by assumption)]; exact fin_all ⟨rfl, rfl⟩
  · rw [if_neg (by assumption)]; exact fin_all ⟨rfl, rfl⟩
theorem at_out (r : Nat) (n i : Int) (s : Nat → Sl10) (h : i < 0 ∨ n ≤ i) : Fnc Try.prog 13 [pt r, .int .i64 i] [tB r n s] (Ret (.tuple #[.agg slZ.toArray, .int .i64 3]) [tB r n s]) := by
  refine fn_intro Try.func13 (by kernel_rfl) ?_
  repeat' ((conv => whnf); first
      | refine ld1_row (tc_0 _ _) ?_
      | exact fin_look r ⟨rfl, rfl⟩
      | refine ld1_lit ?_
      | refine ldN_lit ?_
      | refine nw (fun n => ?_)
      | refine st_lit rfl ?_
      | refine need (by first | rfl | omega) ?_
      | (refine wr (fun z hz => ?_); (try rw [Int.tdiv_eq_ediv_of_nonneg (by omega)] at hz); rw [w64 (by omega) (by omega)] at hz; subst hz)
      | (refine zv (fun z hz => ?_); (try rw [Int.tmod_eq_emod_of_nonneg (by omega)] at hz); subst hz)
      | (refine ifs (fun h => ?_) (fun h => ?_) <;> (try (exfalso; first | omega | with_reducible contradiction | with_reducible exact h rfl))))
theorem at_in (r : Nat) (n : Int) (i : Nat) (s : Nat → Sl10) (h8 : n ≤ 8) (h : (i : Int) < n) : Fnc Try.prog 13 [pt r, .int .i64 i] [tB r n s] (Ret (.tuple #[.agg (sc (s i)).toArray, .int .i64 0]) [tB r n s]) := by
  refine fn_intro Try.func13 (by kernel_rfl) ?_
  repeat' ((conv => whnf); first
      | refine ld1_row (tc_0 _ _) ?_
      | (refine nv (fun z hz => ?_); (try simp at hz); replace hz := hz.symm; subst hz)
      | refine ldN_row (sc (s i)) (tc_part (by omega)) rfl ?_
      | exact fin_look r ⟨rfl, rfl⟩
      | refine ld1_lit ?_
      | refine ldN_lit ?_
      | refine nw (fun n => ?_)
      | refine st_lit rfl ?_
      | refine need (by first | rfl | omega) ?_
      | (refine wr (fun z hz => ?_); (try rw [Int.tdiv_eq_ediv_of_nonneg (by omega)] at hz); rw [w64 (by omega) (by omega)] at hz; subst hz)
      | (refine zv (fun z hz => ?_); (try rw [Int.tmod_eq_emod_of_nonneg (by omega)] at hz); subst hz)
      | (refine ifs (fun h => ?_) (fun h => ?_) <;> (try (exfalso; first | omega | with_reducible contradiction | with_reducible exact h rfl))))
end Go.Proofs.Ytlmhagngbfcdkaa.Slots
