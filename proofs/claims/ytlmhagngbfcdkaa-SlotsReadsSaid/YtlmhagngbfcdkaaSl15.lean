/- slots.Read. -/
import Derived.Test.YtlmhagngbfcdkaaSl14
namespace Go.Proofs.Ytlmhagngbfcdkaa.Slots
open Go Ev Be
set_option linter.unusedVariables false
set_option linter.unusedSimpArgs false
set_option maxRecDepth 100000
theorem and_bits : ∀ n : Nat, n < 256 → ∀ k : Nat, k < 8 → IntKind.u8.wrap ((BitVec.ofInt IntKind.u8.bits (n : Int) &&& BitVec.ofInt IntKind.u8.bits (2 ^ k : Nat)).toNat : Int) = if n / 2 ^ k % 2 = 1 then ((2 ^ k : Nat) : Int) else 0 := by decide +kernel
theorem and_bit (x : UInt8) (k : Nat) (p : Int) (hk : k < 8) (hp : p = ((2 ^ k : Nat) : Int)) : IntKind.u8.wrap ((BitVec.ofInt IntKind.u8.bits (x.toNat : Int) &&& BitVec.ofInt IntKind.u8.bits p).toNat : Int) = if bt x k = true then p else 0 := by
  subst hp
  rw [and_bits x.toNat x.toNat_lt k hk]
  unfold bt
  simp
attribute [local irreducible] rl tc bu biX rowI rowE rowS padE padS by1 pw full sBy cnt bt convert Builtin.copy_ Builtin.append_ Instr.makeSlice
set_option maxHeartbeats 4000000 in
theorem slot_of (x0 x1 x2 x3 : UInt8) : Fnc Try.prog 37 [.string (str [x0, x1, x2, x3])] []
    (Ret (.agg #[.int .i64 ((x0.toNat : Int) - 1), .bool (bt x1 4), .bool (bt x1 5), .bool (bt x1 6), .bool (bt x1 7), .bool (bt x1 0), .bool (bt x1 1), .bool (bt x1 2), .bool (bt x1 3), .int .i64 (x2.toNat : Int)]) []) := by
  have h0 := x0.toNat_lt
  have h1 := x1.toNat_lt
  have h2 := x2.toNat_lt
  refine fn_intro Try.func37 (by kernel_rfl) ?_
  repeat' ((conv => whnf); first
      | refine draw_any 1 [(0, true), (1, true), (2, true), (3, true), (4, true), (5, true), (6, true), (7, true), (8, false), (9, false)] [] rfl (by kernel_rfl) ?_
      | refine kept_nil ?_
      | (refine need ⟨by omega, by rw [Ev.str_size]; simp⟩ ?_)
      | (refine zv (fun z hz => ?_); obtain rfl : z = (x0.toNat : Int) := hz)
      | (refine zv (fun z hz => ?_); obtain rfl : z = (x2.toNat : Int) := hz)
      | (refine nv (fun z hz => ?_); (try simp at hz); replace hz := hz.symm; subst hz)
      | refine ld1_lit ?_
      | refine ldN_lit ?_
      | refine nw (fun n => ?_)
      | refine st_lit rfl ?_
      | refine need (by first | rfl | omega) ?_
      | (refine wr (fun z hz => ?_); (try rw [Int.tdiv_eq_ediv_of_nonneg (by omega)] at hz); rw [w64 (by omega) (by omega)] at hz; subst hz)
      | (refine zv (fun z hz => ?_); (try rw [Int.tmod_eq_emod_of_nonneg (by omega)] at hz); subst hz)
      | (refine ifs (fun h => ?_) (fun h => ?_) <;> (try (exfalso; first | omega | with_reducible contradiction | with_reducible exact h rfl))))
  rename_i p
  refine loop_rule [13] (fun vs M m => ∃ k : Nat, vs = [.int .i64 k] ∧ k ≤ 4 ∧ m = 4 - k ∧ M = [⟨n, .cells [.int .i64 ((x0.toNat : Int) - 1), .bool (if 0 < k then bt x1 4 else false), .bool (if 1 < k then bt x1 5 else false), .bool (if 2 < k then bt x1 6 else false), .bool (if 3 < k then bt x1 7 else false), .bool (if 0 < k then bt x1 0 else false), .bool (if 1 < k then bt x1 1 else false), .bool (if 2 < k then bt x1 2 else false), .bool (if 3 < k then bt x1 3 else false), .int .i64 (x2.toNat : Int)] 38⟩, ⟨p, .cells slZ 38⟩]) rfl ?_ ?_
  · exact fin_all ⟨_, 0, rfl, by omega, rfl, rfl⟩
  rintro vs junk M' m ⟨k, rfl, hk, rfl, rfl⟩
  have hcase : k = 0 ∨ k = 1 ∨ k = 2 ∨ k = 3 ∨ k = 4 := by omega
  rcases hcase with rfl | rfl | rfl | rfl | rfl
  · have a1 := and_bit x1 4 16 (by omega) rfl
    have a2 := and_bit x1 0 1 (by omega) rfl
    rcases hv : bt x1 4 <;> rcases hd : bt x1 0
    all_goals rw [hv] at a1
    all_goals rw [hd] at a2
    all_goals simp only [if_true, if_false, Bool.false_eq_true] at a1 a2
    all_goals repeat' ((conv => whnf); first
        | refine draw_any 5 [(0, true), (1, true), (2, true), (3, true), (4, true), (5, true), (6, true), (7, true), (8, true), (9, true), (10, true), (11, true), (12, true), (13, true), (14, true), (15, true), (17, true), (16, false), (18, true), (19, false)] [] rfl (by kernel_rfl) ?_
        | refine kept_nil ?_
        | (refine need ⟨by omega, by rw [Ev.str_size]; simp⟩ ?_)
        | (refine zv (fun z hz => ?_); obtain rfl : z = (x1.toNat : Int) := hz)
        | (refine wr (fun z hz => ?_); rw [show z = 16 from by rw [hz]; with_reducible decide])
        | (refine wr (fun z hz => ?_); rw [show z = 1 from by rw [hz]; with_reducible decide])
        | (refine wr (fun z hz => ?_); rw [a1] at hz; subst hz)
        | (refine wr (fun z hz => ?_); rw [a2] at hz; subst hz)
        | (refine nv (fun z hz => ?_); (try simp at hz); replace hz := hz.symm; subst hz)
        | refine ld1_lit ?_
        | refine ldN_lit ?_
        | refine nw (fun n => ?_)
        | refine st_lit rfl ?_
        | refine need (by first | rfl | omega) ?_
        | (refine wr (fun z hz => ?_); (try rw [Int.tdiv_eq_ediv_of_nonneg (by omega)] at hz); rw [w64 (by omega) (by omega)] at hz; subst hz)
        | (refine zv (fun z hz => ?_); (try rw [Int.tmod_eq_emod_of_nonneg (by omega)] at hz); subst hz)
        | (refine ifs (fun h => ?_) (fun h => ?_) <;> (try (exfalso; first | omega | with_reducible contradiction | with_reducible exact h rfl))))
    all_goals (conv => whnf)
    all_goals exact ⟨rfl, fin_all ⟨4 - 1, by omega, 1, rfl, by omega, rfl, by simp [hv, hd]⟩⟩
  · have a1 := and_bit x1 5 32 (by omega) rfl
    have a2 := and_bit x1 1 2 (by omega) rfl
    rcases hv : bt x1 5 <;> rcases hd : bt x1 1
    all_goals rw [hv] at a1
    all_goals rw [hd] at a2
    all_goals simp only [if_true, if_false, Bool.false_eq_true] at a1 a2
    all_goals repeat' ((conv => whnf); first
        | refine draw_any 5 [(0, true), (1, true), (2, true), (3, true), (4, true), (5, true), (6, true), (7, true), (8, true), (9, true), (10, true), (11, true), (12, true), (13, true), (14, true), (15, true), (17, true), (16, false), (18, true), (19, false)] [] rfl (by kernel_rfl) ?_
        | refine kept_nil ?_
        | (refine need ⟨by omega, by rw [Ev.str_size]; simp⟩ ?_)
        | (refine zv (fun z hz => ?_); obtain rfl : z = (x1.toNat : Int) := hz)
        | (refine wr (fun z hz => ?_); rw [show z = 32 from by rw [hz]; with_reducible decide])
        | (refine wr (fun z hz => ?_); rw [show z = 2 from by rw [hz]; with_reducible decide])
        | (refine wr (fun z hz => ?_); rw [a1] at hz; subst hz)
        | (refine wr (fun z hz => ?_); rw [a2] at hz; subst hz)
        | (refine nv (fun z hz => ?_); (try simp at hz); replace hz := hz.symm; subst hz)
        | refine ld1_lit ?_
        | refine ldN_lit ?_
        | refine nw (fun n => ?_)
        | refine st_lit rfl ?_
        | refine need (by first | rfl | omega) ?_
        | (refine wr (fun z hz => ?_); (try rw [Int.tdiv_eq_ediv_of_nonneg (by omega)] at hz); rw [w64 (by omega) (by omega)] at hz; subst hz)
        | (refine zv (fun z hz => ?_); (try rw [Int.tmod_eq_emod_of_nonneg (by omega)] at hz); subst hz)
        | (refine ifs (fun h => ?_) (fun h => ?_) <;> (try (exfalso; first | omega | with_reducible contradiction | with_reducible exact h rfl))))
    all_goals (conv => whnf)
    all_goals exact ⟨rfl, fin_all ⟨4 - 2, by omega, 2, rfl, by omega, rfl, by simp [hv, hd]⟩⟩
  · have a1 := and_bit x1 6 64 (by omega) rfl
    have a2 := and_bit x1 2 4 (by omega) rfl
    rcases hv : bt x1 6 <;> rcases hd : bt x1 2
    all_goals rw [hv] at a1
    all_goals rw [hd] at a2
    all_goals simp only [if_true, if_false, Bool.false_eq_true] at a1 a2
    all_goals repeat' ((conv => whnf); first
        | refine draw_any 5 [(0, true), (1, true), (2, true), (3, true), (4, true), (5, true), (6, true), (7, true), (8, true), (9, true), (10, true), (11, true), (12, true), (13, true), (14, true), (15, true), (17, true), (16, false), (18, true), (19, false)] [] rfl (by kernel_rfl) ?_
        | refine kept_nil ?_
        | (refine need ⟨by omega, by rw [Ev.str_size]; simp⟩ ?_)
        | (refine zv (fun z hz => ?_); obtain rfl : z = (x1.toNat : Int) := hz)
        | (refine wr (fun z hz => ?_); rw [show z = 64 from by rw [hz]; with_reducible decide])
        | (refine wr (fun z hz => ?_); rw [show z = 4 from by rw [hz]; with_reducible decide])
        | (refine wr (fun z hz => ?_); rw [a1] at hz; subst hz)
        | (refine wr (fun z hz => ?_); rw [a2] at hz; subst hz)
        | (refine nv (fun z hz => ?_); (try simp at hz); replace hz := hz.symm; subst hz)
        | refine ld1_lit ?_
        | refine ldN_lit ?_
        | refine nw (fun n => ?_)
        | refine st_lit rfl ?_
        | refine need (by first | rfl | omega) ?_
        | (refine wr (fun z hz => ?_); (try rw [Int.tdiv_eq_ediv_of_nonneg (by omega)] at hz); rw [w64 (by omega) (by omega)] at hz; subst hz)
        | (refine zv (fun z hz => ?_); (try rw [Int.tmod_eq_emod_of_nonneg (by omega)] at hz); subst hz)
        | (refine ifs (fun h => ?_) (fun h => ?_) <;> (try (exfalso; first | omega | with_reducible contradiction | with_reducible exact h rfl))))
    all_goals (conv => whnf)
    all_goals exact ⟨rfl, fin_all ⟨4 - 3, by omega, 3, rfl, by omega, rfl, by simp [hv, hd]⟩⟩
  · have a1 := and_bit x1 7 128 (by omega) rfl
    have a2 := and_bit x1 3 8 (by omega) rfl
    rcases hv : bt x1 7 <;> rcases hd : bt x1 3
    all_goals rw [hv] at a1
    all_goals rw [hd] at a2
    all_goals simp only [if_true, if_false, Bool.false_eq_true] at a1 a2
    all_goals repeat' ((conv => whnf); first
        | refine draw_any 5 [(0, true), (1, true), (2, true), (3, true), (4, true), (5, true), (6, true), (7, true), (8, true), (9, true), (10, true), (11, true), (12, true), (13, true), (14, true), (15, true), (17, true), (16, false), (18, true), (19, false)] [] rfl (by kernel_rfl) ?_
        | refine kept_nil ?_
        | (refine need ⟨by omega, by rw [Ev.str_size]; simp⟩ ?_)
        | (refine zv (fun z hz => ?_); obtain rfl : z = (x1.toNat : Int) := hz)
        | (refine wr (fun z hz => ?_); rw [show z = 128 from by rw [hz]; with_reducible decide])
        | (refine wr (fun z hz => ?_); rw [show z = 8 from by rw [hz]; with_reducible decide])
        | (refine wr (fun z hz => ?_); rw [a1] at hz; subst hz)
        | (refine wr (fun z hz => ?_); rw [a2] at hz; subst hz)
        | (refine nv (fun z hz => ?_); (try simp at hz); replace hz := hz.symm; subst hz)
        | refine ld1_lit ?_
        | refine ldN_lit ?_
        | refine nw (fun n => ?_)
        | refine st_lit rfl ?_
        | refine need (by first | rfl | omega) ?_
        | (refine wr (fun z hz => ?_); (try rw [Int.tdiv_eq_ediv_of_nonneg (by omega)] at hz); rw [w64 (by omega) (by omega)] at hz; subst hz)
        | (refine zv (fun z hz => ?_); (try rw [Int.tmod_eq_emod_of_nonneg (by omega)] at hz); subst hz)
        | (refine ifs (fun h => ?_) (fun h => ?_) <;> (try (exfalso; first | omega | with_reducible contradiction | with_reducible exact h rfl))))
    all_goals (conv => whnf)
    all_goals exact ⟨rfl, fin_all ⟨4 - 4, by omega, 4, rfl, by omega, rfl, by simp [hv, hd]⟩⟩
  · repeat' ((conv => whnf); first
      | exact fin_nil ⟨rfl, rfl⟩
      | refine ld1_lit ?_
      | refine ldN_lit ?_
      | refine nw (fun n => ?_)
      | refine st_lit rfl ?_
      | refine need (by first | rfl | omega) ?_
      | (refine wr (fun z hz => ?_); (try rw [Int.tdiv_eq_ediv_of_nonneg (by omega)] at hz); rw [w64 (by omega) (by omega)] at hz; subst hz)
      | (refine zv (fun z hz => ?_); (try rw [Int.tmod_eq_emod_of_nonneg (by omega)] at hz); subst hz)
      | (refine ifs (fun h => ?_) (fun h => ?_) <;> (try (exfalso; first | omega | with_reducible contradiction | with_reducible exact h rfl))))
end Go.Proofs.Ytlmhagngbfcdkaa.Slots
