/- Texts that are made longer. -/
import Derived.Test.YtlmhagngbfcdkaaProg
import Derived.Test.YtlmhagngbfcdkaaBeM2
import Derived.Test.YtlmhagngbfcdkaaBe
import Derived.KernelRfl
namespace Go.Proofs.Ytlmhagngbfcdkaa.Be
open Go Ev
set_option linter.unusedVariables false
set_option maxRecDepth 100000
set_option linter.unusedSimpArgs false
abbrev pt (r : Nat) : Value := .pointer (some ⟨r, 0, none⟩)

/-- A text, and bytes 0 behind it. -/
def full (s : ByteArray) (n : Int) : ByteArray := if n ≤ s.size then s else s ++ str (List.replicate (n - s.size).toNat 0)
theorem zeros (n : Int) (h0 : 0 ≤ n) (h1 : n ≤ 140737488355328) : Fnc Try.prog 39 [.int .i64 n] [] (Ret (.string (str (List.replicate n.toNat 0))) []) := by
  refine fn_intro Try.func39 (by kernel_rfl) ?_
  repeat' ((conv => whnf); first
      | refine mk_row rfl rfl rfl rfl rfl (by omega) (by omega) (by show ((1 : Nat) : Int) * _ ≤ _; omega) (fun g => ?_)
      | refine b2s_row (l := List.replicate n.toNat 0) (junk := []) (by simp [u8s]) rfl rfl rfl (by simp) ?_
      | exact fin_nil ⟨rfl, rfl⟩
      | refine ld1_lit ?_
      | refine ldN_lit ?_
      | refine nw (fun n => ?_)
      | refine st_lit rfl ?_
      | refine need (by first | rfl | omega) ?_
      | (refine wr (fun z hz => ?_); (try rw [Int.tdiv_eq_ediv_of_nonneg (by omega)] at hz); rw [w64 (by omega) (by omega)] at hz; subst hz)
      | (refine zv (fun z hz => ?_); (try rw [Int.tmod_eq_emod_of_nonneg (by omega)] at hz); subst hz)
      | (refine ifs (fun h => ?_) (fun h => ?_) <;> (try (exfalso; first | omega | with_reducible contradiction | with_reducible exact h rfl)))
      | refine fin_nil ⟨?_, rfl⟩)
theorem full_eq {s : ByteArray} {n : Int} (h : n ≤ s.size) : Ending.returned (oneOrMany [.string s]) = .returned (.string (full s n)) := by
  have : full s n = s := if_pos h
  rw [this]; rfl
theorem full_ne {s : ByteArray} {n : Int} (h : ¬ n ≤ s.size) : Ending.returned (oneOrMany [.string (s ++ str (List.replicate (n - s.size).toNat 0))]) = .returned (.string (full s n)) := by
  have : full s n = s ++ str (List.replicate (n - s.size).toNat 0) := if_neg h
  rw [this]; rfl
theorem full01 (s : ByteArray) (n : Int) (h1 : n ≤ 140737488355328) (h2 : s.size ≤ 140737488355328) : Fnc Try.prog 26 [.string s, .int .i64 n] [] (Ret (.string (full s n)) []) := by
  refine fn_intro Try.func26 (by kernel_rfl) ?_
  repeat' ((conv => whnf); first
      | refine call_val (zeros _ (by omega) (by omega)) ?_
      | refine need (by rw [show IntKind.i64.max = 9223372036854775807 from rfl]; simp; omega) ?_
      | (refine sv (fun z hz => ?_); subst hz)
      | refine ld1_lit ?_
      | refine ldN_lit ?_
      | refine nw (fun n => ?_)
      | refine st_lit rfl ?_
      | refine need (by first | rfl | omega) ?_
      | (refine wr (fun z hz => ?_); (try rw [Int.tdiv_eq_ediv_of_nonneg (by omega)] at hz); rw [w64 (by omega) (by omega)] at hz; subst hz)
      | (refine zv (fun z hz => ?_); (try rw [Int.tmod_eq_emod_of_nonneg (by omega)] at hz); subst hz)
      | (refine ifs (fun h => ?_) (fun h => ?_) <;> (try (exfalso; first | omega | with_reducible contradiction | with_reducible exact h rfl)))
      | refine fin_nil ⟨?_, rfl⟩)
  all_goals first
    | exact full_eq (by omega)
    | exact full_ne (by omega)
def padE (s : ByteArray) (n : Int) : Int := if n < 0 ∨ 4096 < n then 2 else if n < s.size then 4 else 0
def padS (s : ByteArray) (n : Int) : ByteArray := if padE s n = 0 then full s n else str []
theorem pad_no {s : ByteArray} {n e : Int} (h : padE s n = e) (h0 : e ≠ 0) : Ending.returned (oneOrMany [.string { data := #[] }, .int .i64 e]) = .returned (.tuple #[.string (padS s n), .int .i64 (padE s n)]) := by
  have : padS s n = str [] := if_neg (by omega)
  rw [this, h]; rfl
theorem pad_ok {s : ByteArray} {n : Int} (h : 0 ≤ n) (h1 : n ≤ 4096) (h2 : s.size ≤ n) : Ending.returned (oneOrMany [.string (s ++ str (List.replicate (n - s.size).toNat 0)), .int .i64 0]) = .returned (.tuple #[.string (padS s n), .int .i64 (padE s n)]) := by
  have e : padE s n = 0 := by unfold padE; rw [if_neg (by omega), if_neg (by omega)]
  have : padS s n = full s n := if_pos e
  rw [this, e]
  unfold full
  split
  · have : (n - s.size).toNat = 0 := by omega
    rw [this]
    have : s ++ str (List.replicate 0 0) = s := ByteArray.append_empty
    rw [this]; rfl
  · rfl
theorem pad (s : ByteArray) (n : Int) (h2 : s.size ≤ 140737488355328) : Fnc Try.prog 36 [.string s, .int .i64 n] [] (Ret (.tuple #[.string (padS s n), .int .i64 (padE s n)]) []) := by
  refine fn_intro Try.func36 (by kernel_rfl) ?_
  repeat' ((conv => whnf); first
      | refine mk_row rfl rfl rfl rfl rfl (by omega) (by omega) (by show ((1 : Nat) : Int) * _ ≤ _; omega) (fun g => ?_)
      | refine b2s_row (l := List.replicate (n - s.size).toNat 0) (junk := []) (by simp [u8s]) rfl rfl rfl (by simp) ?_
      | refine need (by rw [show IntKind.i64.max = 9223372036854775807 from rfl]; simp; omega) ?_
      | (refine sv (fun z hz => ?_); subst hz)
      | refine ld1_lit ?_
      | refine ldN_lit ?_
      | refine nw (fun n => ?_)
      | refine st_lit rfl ?_
      | refine need (by first | rfl | omega) ?_
      | (refine wr (fun z hz => ?_); (try rw [Int.tdiv_eq_ediv_of_nonneg (by omega)] at hz); rw [w64 (by omega) (by omega)] at hz; subst hz)
      | (refine zv (fun z hz => ?_); (try rw [Int.tmod_eq_emod_of_nonneg (by omega)] at hz); subst hz)
      | (refine ifs (fun h => ?_) (fun h => ?_) <;> (try (exfalso; first | omega | with_reducible contradiction | with_reducible exact h rfl)))
      | refine fin_nil ⟨?_, rfl⟩)
  all_goals first
    | exact pad_no (if_pos (by omega)) (by omega)
    | exact pad_no (by unfold padE; rw [if_neg (by omega), if_pos (by omega)]) (by omega)
    | exact pad_ok (by omega) (by omega) (by omega)

end Go.Proofs.Ytlmhagngbfcdkaa.Be
