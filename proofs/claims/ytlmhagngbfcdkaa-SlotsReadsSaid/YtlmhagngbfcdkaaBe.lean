/- The contracts of package be. -/
import Derived.Test.YtlmhagngbfcdkaaProg
import Derived.Test.YtlmhagngbfcdkaaBeM
import Derived.KernelRfl
namespace Go.Proofs.Ytlmhagngbfcdkaa.Be
open Go Ev
set_option linter.unusedVariables false
set_option maxRecDepth 100000
set_option linter.unusedSimpArgs false

theorem ret_s {s s' : ByteArray} {e e' : Int} (h1 : s = s') (h2 : e = e') : Ending.returned (oneOrMany [.string s, .int .i64 e]) = .returned (.tuple #[.string s', .int .i64 e']) := by rw [h1, h2]; rfl

theorem put_2 {n w : Int} (h : w < 1 ∨ 8 < w) : Ending.returned (oneOrMany [.string (str []), .int .i64 2]) = .returned (.tuple #[.string (putS n w), .int .i64 (putE n w)]) := by
  have e := putE_arg (n := n) h
  rw [putS_no (by omega), e]; rfl
theorem put_3 {n w : Int} (h : ¬ (w < 1 ∨ 8 < w)) (h' : n < 0 ∨ (w < 8 ∧ (256 ^ w.toNat : Int) ≤ n)) : Ending.returned (oneOrMany [.string (str []), .int .i64 3]) = .returned (.tuple #[.string (putS n w), .int .i64 (putE n w)]) := by
  have e := putE_range h h'
  rw [putS_no (by omega), e]; rfl
theorem put_0 {n w : Int} (h : ¬ (w < 1 ∨ 8 < w)) (h0 : ¬ n < 0) (h' : w < 8 → ¬ (256 ^ w.toNat : Int) ≤ n) : Ending.returned (oneOrMany [.string (str (bb w.toNat n.toNat)), .int .i64 0]) = .returned (.tuple #[.string (putS n w), .int .i64 (putE n w)]) := by
  have e := putE_ok h (fun hc => by rcases hc with hc | ⟨h1, h2⟩; exact h0 hc; exact h' h1 h2)
  rw [putS_ok e, e]; rfl
theorem put (n w : Int) : Fnc Try.prog 41 [.int .i64 n, .int .i64 w] [] (Ret (.tuple #[.string (putS n w), .int .i64 (putE n w)]) []) := by
  refine fn_intro Try.func41 (by kernel_rfl) ?_
  repeat' ((conv => whnf); first
      | (refine zv (fun z hz => ?_); rw [shr_eq (by omega) (by omega) (by omega)] at hz; subst hz)
      | refine mk_row rfl rfl rfl rfl rfl (by omega) (by omega) (by show ((1 : Nat) : Int) * _ ≤ _; omega) (fun g => ?_)
      | refine ld1_lit ?_
      | refine ldN_lit ?_
      | refine nw (fun n => ?_)
      | refine st_lit rfl ?_
      | refine need (by first | rfl | omega) ?_
      | (refine wr (fun z hz => ?_); (try rw [Int.tdiv_eq_ediv_of_nonneg (by omega)] at hz); rw [w64 (by omega) (by omega)] at hz; subst hz)
      | (refine zv (fun z hz => ?_); (try rw [Int.tmod_eq_emod_of_nonneg (by omega)] at hz); subst hz)
      | (refine ifs (fun h => ?_) (fun h => ?_) <;> (try (exfalso; first | omega | with_reducible contradiction | with_reducible exact h rfl)))
      | refine fin_nil ⟨?_, rfl⟩)
  any_goals refine loop_rule [32] (fun vs M m => ∃ i : Int, vs = [.int .i64 i] ∧ 0 ≤ i ∧ i ≤ w ∧ M = [⟨g, .row (List.replicate (w.toNat - i.toNat) (.int .u8 0) ++ u8s (bb i.toNat n.toNat)) 5⟩] ∧ m = (w - i).toNat) rfl ?_ ?_
  all_goals first | exact fin_all ⟨_, 0, rfl, by omega, by omega, by simp [bb, u8s], rfl⟩ | skip
  all_goals first | (rintro vs junk M' m ⟨i, rfl, h1, h2, rfl, rfl⟩) | skip
  repeat' ((conv => whnf); first
      | (refine zv (fun z hz => ?_); rw [shr_eq (by omega) (by omega) (by omega)] at hz; subst hz)
      | (refine wr (fun z hz => ?_); rw [byte_cell _ (by omega)] at hz; subst hz)
      | (refine nv (fun z hz => ?_); simp at hz; subst hz)
      | refine st_row rfl (by simp; omega) ?_
      | refine b2s_row (l := bb w.toNat n.toNat) (junk := []) (by obtain rfl : i = w := (by omega); simp) rfl rfl rfl (by simp) ?_
      | refine ld1_lit ?_
      | refine ldN_lit ?_
      | refine nw (fun n => ?_)
      | refine st_lit rfl ?_
      | refine need (by first | rfl | omega) ?_
      | (refine wr (fun z hz => ?_); (try rw [Int.tdiv_eq_ediv_of_nonneg (by omega)] at hz); rw [w64 (by omega) (by omega)] at hz; subst hz)
      | (refine zv (fun z hz => ?_); (try rw [Int.tmod_eq_emod_of_nonneg (by omega)] at hz); subst hz)
      | (refine ifs (fun h => ?_) (fun h => ?_) <;> (try (exfalso; first | omega | with_reducible contradiction | with_reducible exact h rfl)))
      | refine fin_nil ⟨?_, rfl⟩)
  all_goals first
    | exact put_2 (by omega)
    | exact put_3 (by omega) (.inl (by omega))
    | exact put_3 (by omega) (.inr ⟨by omega, (pos_div (by omega)).1 ‹_›⟩)
    | exact put_0 (by omega) (by omega) (fun _ => by have := mt (pos_div (k := w.toNat) (show 0 ≤ n by omega)).2 ‹_›; omega)
    | exact put_0 (by omega) (by omega) (fun _ => by omega)
    | skip
  all_goals
    (conv => whnf)
    refine ⟨rfl, fin_all ⟨(w - (i + 1)).toNat, by omega, i + 1, rfl, by omega, by omega, ?_, rfl⟩⟩
    have e1 : (i + 1).toNat = i.toNat + 1 := by omega
    have e2 := row_set (w := w.toNat) (i := i.toNat) (by omega) (.int .u8 0) n.toNat (UInt8.ofNat (n.toNat / 256 ^ i.toNat % 256))
    have e3 : (w - 1 - i).toNat = w.toNat - 1 - i.toNat := by omega
    rw [e1, e3, e2, bb]

theorem put01_3 {n w : Int} {i : Nat} (h : ¬ (w < 1 ∨ 8 < w)) (h0 : ¬ n < 0) (hi : (i : Int) = w) (hn : n ≤ 9223372036854775807) (h' : 0 < ((n.toNat / 256 ^ i : Nat) : Int)) : Ending.returned (oneOrMany [.string (str []), .int .i64 3]) = .returned (.tuple #[.string (putS n w), .int .i64 (putE n w)]) := by
  obtain rfl : i = w.toNat := by omega
  have hp : 0 < n.toNat / 256 ^ w.toNat := Int.ofNat_lt.1 h'
  refine put_3 h (.inr ⟨?_, ?_⟩)
  · by_cases h8 : w = 8
    · subst h8
      have : n.toNat / 256 ^ (8 : Int).toNat = 0 := Nat.div_eq_of_lt (by show n.toNat < 18446744073709551616; omega)
      omega
    · omega
  · have h1 : 256 ^ w.toNat ≤ n.toNat := by
      by_cases hc : n.toNat < 256 ^ w.toNat
      · rw [Nat.div_eq_of_lt hc] at hp; omega
      · omega
    have h2 : ((256 ^ w.toNat : Nat) : Int) ≤ (n.toNat : Nat) := Int.ofNat_le.2 h1
    have h3 : ((256 ^ w.toNat : Nat) : Int) = (256 ^ w.toNat : Int) := Int.natCast_pow 256 _
    omega
theorem put01_0 {n w : Int} {i : Nat} (h : ¬ (w < 1 ∨ 8 < w)) (h0 : ¬ n < 0) (hi : (i : Int) = w) (h' : ¬ 0 < ((n.toNat / 256 ^ i : Nat) : Int)) : Ending.returned (oneOrMany [.string (str (bb i n.toNat)), .int .i64 0]) = .returned (.tuple #[.string (putS n w), .int .i64 (putE n w)]) := by
  obtain rfl : i = w.toNat := by omega
  have hp : n.toNat / 256 ^ w.toNat = 0 := Nat.eq_zero_of_not_pos (fun hc => h' (Int.ofNat_lt.2 hc))
  refine put_0 h h0 (fun _ hc => ?_)
  have h3 : ((256 ^ w.toNat : Nat) : Int) = (256 ^ w.toNat : Int) := Int.natCast_pow 256 _
  have h2 : n.toNat < 256 ^ w.toNat := by
    by_cases hx : n.toNat < 256 ^ w.toNat
    · exact hx
    · have := Nat.div_pos (Nat.le_of_not_lt hx) (Nat.pow_pos (by omega)); omega
  omega
theorem shl8 (a : Int) : a * 2 ^ min (Int.toNat 8) IntKind.i64.bits = a * 256 := rfl
theorem get_ret {s : ByteArray} {a b : Int} (h1 : a = getN s) (h2 : b = getE s) : Ending.returned (oneOrMany [.int .i64 a, .int .i64 b]) = .returned (.tuple #[.int .i64 (getN s), .int .i64 (getE s)]) := by rw [h1, h2]; rfl
theorem get_5 {s : ByteArray} (h : s = { data := #[] }) : Ending.returned (oneOrMany [.int .i64 0, .int .i64 5]) = .returned (.tuple #[.int .i64 (getN s), .int .i64 (getE s)]) := by subst h; rfl
theorem get_4 {s : ByteArray} (h : (8 : Int) < s.size) : Ending.returned (oneOrMany [.int .i64 0, .int .i64 4]) = .returned (.tuple #[.int .i64 (getN s), .int .i64 (getE s)]) := by
  have e : getE s = 4 := by unfold getE; rw [if_neg (by omega), if_pos (by omega)]
  exact get_ret (by unfold getN; rw [e]; rfl) e.symm
theorem get_3 {s : ByteArray} (h : (s.size : Int) = 8) (h' : 127 < byteAt s 0) : Ending.returned (oneOrMany [.int .i64 0, .int .i64 3]) = .returned (.tuple #[.int .i64 (getN s), .int .i64 (getE s)]) := by
  have e : getE s = 3 := by unfold getE; rw [if_neg (by omega), if_neg (by omega), if_pos ⟨by omega, h'⟩]
  exact get_ret (by unfold getN; rw [e]; rfl) e.symm
theorem get_0 {s : ByteArray} {i : Nat} (h : (s.size : Int) ≤ 8) (h' : (s.size : Int) = 8 → byteAt s 0 ≤ 127) (hi : s.size ≤ i) (hs : ¬ s = { data := #[] }) : Ending.returned (oneOrMany [.int .i64 (bval (s.data.toList.take i)), .int .i64 0]) = .returned (.tuple #[.int .i64 (getN s), .int .i64 (getE s)]) := by
  have h0 : s.size ≠ 0 := fun hc => hs (ByteArray.ext (Array.eq_empty_of_size_eq_zero hc))
  have e : getE s = 0 := by unfold getE; rw [if_neg h0, if_neg (by omega), if_neg (by omega)]
  exact get_ret (by unfold getN; rw [if_pos e, List.take_of_length_le (by rw [← size_eq]; exact hi)]) e.symm
end Go.Proofs.Ytlmhagngbfcdkaa.Be
