/- The reader of package be; texts that are made longer. -/
import Derived.Test.YtjlgbihllijpbabProg
import Derived.Test.YtjlgbihllijpbabBeM2
import Derived.Test.YtjlgbihllijpbabBe
import Derived.Test.YtjlgbihllijpbabBe2
import Derived.KernelRfl
namespace Go.Proofs.Ytjlgbihllijpbab.Be
open Go Ev
set_option linter.unusedVariables false
set_option maxRecDepth 100000
set_option linter.unusedSimpArgs false

/-- A reader: the text, and how far it is read. -/
abbrev rd (r : Nat) (s : ByteArray) (a : Int) : Blk := ⟨r, .cells [.string s, .int .i64 a] 114⟩
abbrev pt (r : Nat) : Value := .pointer (some ⟨r, 0, none⟩)

theorem end_t {a b : Int} (h : a < b) : Ending.returned (oneOrMany [.int .i64 6]) = .returned (.int .i64 (if a < b then 6 else 0)) := by rw [if_pos h]; rfl
theorem end_f {a b : Int} (h : ¬ a < b) : Ending.returned (oneOrMany [.int .i64 0]) = .returned (.int .i64 (if a < b then 6 else 0)) := by rw [if_neg h]; rfl
theorem read (s : ByteArray) : Fnc Try.prog 46 [.string s] [] (fun e A => ∃ r, e = .returned (pt r) ∧ A = [rd r s 0]) := by
  refine fn_intro Try.func46 (by kernel_rfl) ?_
  repeat' ((conv => whnf); first
      | exact fin_all ⟨_, rfl, rfl⟩
      | refine ld1_lit ?_
      | refine ldN_lit ?_
      | refine nw (fun n => ?_)
      | refine st_lit rfl ?_
      | refine need (by first | rfl | omega) ?_
      | (refine wr (fun z hz => ?_); (try rw [Int.tdiv_eq_ediv_of_nonneg (by omega)] at hz); rw [w64 (by omega) (by omega)] at hz; subst hz)
      | (refine zv (fun z hz => ?_); (try rw [Int.tmod_eq_emod_of_nonneg (by omega)] at hz); subst hz)
      | (refine ifs (fun h => ?_) (fun h => ?_) <;> (try (exfalso; first | omega | with_reducible contradiction | with_reducible exact h rfl))))

theorem left (r : Nat) (s : ByteArray) (a : Int) (h0 : 0 ≤ a) (h1 : a ≤ s.size) (h2 : s.size ≤ 140737488355328) : Fnc Try.prog 71 [pt r] [rd r s a] (Ret (.int .i64 (s.size - a)) [rd r s a]) := by
  refine fn_intro Try.func71 (by kernel_rfl) ?_
  repeat' ((conv => whnf); first
      | refine draw_quiet rfl (by kernel_rfl) ?_
      | refine qld1_lit ?_
      | refine qldN_lit ?_
      | exact fin_all ⟨rfl, rfl⟩
      | refine ld1_lit ?_
      | refine ldN_lit ?_
      | refine nw (fun n => ?_)
      | refine st_lit rfl ?_
      | refine need (by first | rfl | omega) ?_
      | (refine wr (fun z hz => ?_); (try rw [Int.tdiv_eq_ediv_of_nonneg (by omega)] at hz); rw [w64 (by omega) (by omega)] at hz; subst hz)
      | (refine zv (fun z hz => ?_); (try rw [Int.tmod_eq_emod_of_nonneg (by omega)] at hz); subst hz)
      | (refine ifs (fun h => ?_) (fun h => ?_) <;> (try (exfalso; first | omega | with_reducible contradiction | with_reducible exact h rfl))))
theorem left_nil : Fnc Try.prog 71 [.pointer none] [] (Ret (.int .i64 0) []) := by
  refine fn_intro Try.func71 (by kernel_rfl) ?_
  repeat' ((conv => whnf); first
      | exact fin_nil ⟨rfl, rfl⟩
      | refine ld1_lit ?_
      | refine ldN_lit ?_
      | refine nw (fun n => ?_)
      | refine st_lit rfl ?_
      | refine need (by first | rfl | omega) ?_
      | (refine wr (fun z hz => ?_); (try rw [Int.tdiv_eq_ediv_of_nonneg (by omega)] at hz); rw [w64 (by omega) (by omega)] at hz; subst hz)
      | (refine zv (fun z hz => ?_); (try rw [Int.tmod_eq_emod_of_nonneg (by omega)] at hz); subst hz)
      | (refine ifs (fun h => ?_) (fun h => ?_) <;> (try (exfalso; first | omega | with_reducible contradiction | with_reducible exact h rfl)))
      | refine fin_nil ⟨?_, rfl⟩)
/-- What Bytes answers. -/
def byE (s : ByteArray) (a n : Int) : Int := if n < 0 then 2 else if s.size - a < n then 5 else 0
def byS (s : ByteArray) (a n : Int) : ByteArray := if n < 0 ∨ s.size - a < n then str [] else s.extract a.toNat (a + n).toNat
def byA (s : ByteArray) (a n : Int) : Int := if n < 0 ∨ s.size - a < n then a else a + n
theorem by_2 {s : ByteArray} {a n : Int} {r : Nat} (h : n < 0) : Ret (.tuple #[.string (byS s a n), .int .i64 (byE s a n)]) [rd r s (byA s a n)] (.returned (oneOrMany [.string { data := #[] }, .int .i64 2])) [rd r s a] := by
  have e1 : byS s a n = str [] := if_pos (.inl h)
  have e2 : byE s a n = 2 := if_pos h
  have e3 : byA s a n = a := if_pos (.inl h)
  rw [e1, e2, e3]; exact ⟨rfl, rfl⟩
theorem by_5 {s : ByteArray} {a n : Int} {r : Nat} (h : ¬ n < 0) (h' : s.size - a < n) : Ret (.tuple #[.string (byS s a n), .int .i64 (byE s a n)]) [rd r s (byA s a n)] (.returned (oneOrMany [.string { data := #[] }, .int .i64 5])) [rd r s a] := by
  have e1 : byS s a n = str [] := if_pos (.inr h')
  have e2 : byE s a n = 5 := by unfold byE; rw [if_neg h, if_pos h']
  have e3 : byA s a n = a := if_pos (.inr h')
  rw [e1, e2, e3]; exact ⟨rfl, rfl⟩
theorem by_0 {s : ByteArray} {a n : Int} {r : Nat} (h : ¬ n < 0) (h' : ¬ s.size - a < n) : Ret (.tuple #[.string (byS s a n), .int .i64 (byE s a n)]) [rd r s (byA s a n)] (.returned (oneOrMany [.string (s.extract a.toNat (a + n).toNat), .int .i64 0])) [rd r s (a + n)] := by
  have e1 : byS s a n = s.extract a.toNat (a + n).toNat := if_neg (by omega)
  have e2 : byE s a n = 0 := by unfold byE; rw [if_neg h, if_neg h']
  have e3 : byA s a n = a + n := if_neg (by omega)
  rw [e1, e2, e3]; exact ⟨rfl, rfl⟩
theorem bytes (r : Nat) (s : ByteArray) (a n : Int) (h0 : 0 ≤ a) (h1 : a ≤ s.size) (h2 : s.size ≤ 140737488355328) :
    Fnc Try.prog 55 [pt r, .int .i64 n] [rd r s a] (Ret (.tuple #[.string (byS s a n), .int .i64 (byE s a n)]) [rd r s (byA s a n)]) := by
  refine fn_intro Try.func55 (by kernel_rfl) ?_
  repeat' ((conv => whnf); first
      | refine call_ret (left r s a h0 h1 h2) (.cons .here .nil) ?_
      | refine draw_quiet rfl (by kernel_rfl) ?_
      | refine qld1_lit ?_
      | (refine sv (fun z hz => ?_); subst hz)
      | exact fin_all (by_2 (by omega))
      | exact fin_all (by_5 (by omega) (by omega))
      | exact fin_all (by_0 (by omega) (by omega))
      | refine ld1_lit ?_
      | refine ldN_lit ?_
      | refine nw (fun n => ?_)
      | refine st_lit rfl ?_
      | refine need (by first | rfl | omega) ?_
      | (refine wr (fun z hz => ?_); (try rw [Int.tdiv_eq_ediv_of_nonneg (by omega)] at hz); rw [w64 (by omega) (by omega)] at hz; subst hz)
      | (refine zv (fun z hz => ?_); (try rw [Int.tmod_eq_emod_of_nonneg (by omega)] at hz); subst hz)
      | (refine ifs (fun h => ?_) (fun h => ?_) <;> (try (exfalso; first | omega | with_reducible contradiction | with_reducible exact h rfl))))
theorem bytes_nil (n : Int) : Fnc Try.prog 55 [.pointer none, .int .i64 n] [] (Ret (.tuple #[.string (str []), .int .i64 1]) []) := by
  refine fn_intro Try.func55 (by kernel_rfl) ?_
  repeat' ((conv => whnf); first
      | exact fin_nil ⟨rfl, rfl⟩
      | refine ld1_lit ?_
      | refine ldN_lit ?_
      | refine nw (fun n => ?_)
      | refine st_lit rfl ?_
      | refine need (by first | rfl | omega) ?_
      | (refine wr (fun z hz => ?_); (try rw [Int.tdiv_eq_ediv_of_nonneg (by omega)] at hz); rw [w64 (by omega) (by omega)] at hz; subst hz)
      | (refine zv (fun z hz => ?_); (try rw [Int.tmod_eq_emod_of_nonneg (by omega)] at hz); subst hz)
      | (refine ifs (fun h => ?_) (fun h => ?_) <;> (try (exfalso; first | omega | with_reducible contradiction | with_reducible exact h rfl)))
      | refine fin_nil ⟨?_, rfl⟩)
theorem num_nil (n : Int) : Fnc Try.prog 47 [.pointer none, .int .i64 n] [] (Ret (.tuple #[.int .i64 0, .int .i64 1]) []) := by
  refine fn_intro Try.func47 (by kernel_rfl) ?_
  repeat' ((conv => whnf); first
      | exact fin_nil ⟨rfl, rfl⟩
      | refine ld1_lit ?_
      | refine ldN_lit ?_
      | refine nw (fun n => ?_)
      | refine st_lit rfl ?_
      | refine need (by first | rfl | omega) ?_
      | (refine wr (fun z hz => ?_); (try rw [Int.tdiv_eq_ediv_of_nonneg (by omega)] at hz); rw [w64 (by omega) (by omega)] at hz; subst hz)
      | (refine zv (fun z hz => ?_); (try rw [Int.tmod_eq_emod_of_nonneg (by omega)] at hz); subst hz)
      | (refine ifs (fun h => ?_) (fun h => ?_) <;> (try (exfalso; first | omega | with_reducible contradiction | with_reducible exact h rfl)))
      | refine fin_nil ⟨?_, rfl⟩)

/-- What Num answers. -/
def nuE (s : ByteArray) (a n : Int) : Int := if n < 1 ∨ 8 < n then 2 else if byE s a n = 0 then getE (byS s a n) else byE s a n
def nuN (s : ByteArray) (a n : Int) : Int := if n < 1 ∨ 8 < n then 0 else if byE s a n = 0 then getN (byS s a n) else 0
def nuA (s : ByteArray) (a n : Int) : Int := if n < 1 ∨ 8 < n then a else if byE s a n = 0 ∧ getE (byS s a n) ≠ 0 then a else byA s a n
theorem nu_ret {s : ByteArray} {a n a' k e : Int} {r : Nat} (h1 : k = nuN s a n) (h2 : e = nuE s a n) (h3 : a' = nuA s a n) : Ev.Fin [rd r s a']
    (Ret (.tuple #[.int .i64 (nuN s a n), .int .i64 (nuE s a n)]) [rd r s (nuA s a n)] (.returned (oneOrMany [.int .i64 k, .int .i64 e]))) := by
  rw [h1, h2, h3]; exact fin_all ⟨rfl, rfl⟩
theorem getN_no {s : ByteArray} (h : ¬ getE s = 0) : getN s = 0 := if_neg h
theorem num (r : Nat) (s : ByteArray) (a n : Int) (h0 : 0 ≤ a) (h1 : a ≤ s.size) (h2 : s.size ≤ 140737488355328) :
    Fnc Try.prog 47 [pt r, .int .i64 n] [rd r s a] (Ret (.tuple #[.int .i64 (nuN s a n), .int .i64 (nuE s a n)]) [rd r s (nuA s a n)]) := by
  refine fn_intro Try.func47 (by kernel_rfl) ?_
  repeat' ((conv => whnf); first
      | refine call_ret (bytes r s a n h0 h1 h2) (.cons .here .nil) ?_
      | refine call_val (get _) ?_
      | refine ld1_lit ?_
      | refine ldN_lit ?_
      | refine nw (fun n => ?_)
      | refine st_lit rfl ?_
      | refine need (by first | rfl | omega) ?_
      | (refine wr (fun z hz => ?_); (try rw [Int.tdiv_eq_ediv_of_nonneg (by omega)] at hz); rw [w64 (by omega) (by omega)] at hz; subst hz)
      | (refine zv (fun z hz => ?_); (try rw [Int.tmod_eq_emod_of_nonneg (by omega)] at hz); subst hz)
      | (refine ifs (fun h => ?_) (fun h => ?_) <;> (try (exfalso; first | omega | with_reducible contradiction | with_reducible exact h rfl))))
  all_goals (conv => whnf)
  · exact nu_ret (if_pos (by omega)).symm (if_pos (by omega)).symm (if_pos (by omega)).symm
  · exact nu_ret (if_pos (by omega)).symm (if_pos (by omega)).symm (if_pos (by omega)).symm
  · refine nu_ret ?_ ?_ ?_
    · rw [nuN, if_neg (by omega), if_pos ‹_›]
    · rw [nuE, if_neg (by omega), if_pos ‹_›, ‹getE _ = 0›]
    · rw [nuA, if_neg (by omega), if_neg (fun hc => hc.2 ‹_›)]
  · refine nu_ret ?_ ?_ ?_
    · rw [nuN, if_neg (by omega), if_pos ‹_›, getN_no ‹_›]
    · rw [nuE, if_neg (by omega), if_pos ‹_›]
    · rw [nuA, if_neg (by omega), if_pos ⟨‹_›, ‹_›⟩]
  · refine nu_ret ?_ ?_ ?_
    · rw [nuN, if_neg (by omega), if_neg ‹_›]
    · rw [nuE, if_neg (by omega), if_neg ‹_›]
    · rw [nuA, if_neg (by omega), if_neg (fun hc => absurd hc.1 ‹_›)]

/-- A text, and bytes 0 behind it. -/
def full (s : ByteArray) (n : Int) : ByteArray := if n ≤ s.size then s else s ++ str (List.replicate (n - s.size).toNat 0)
theorem zeros (n : Int) (h0 : 0 ≤ n) (h1 : n ≤ 140737488355328) : Fnc Try.prog 48 [.int .i64 n] [] (Ret (.string (str (List.replicate n.toNat 0))) []) := by
  refine fn_intro Try.func48 (by kernel_rfl) ?_
  repeat' ((conv => whnf); first
      | refine mk_row rfl rfl rfl rfl rfl (by omega) (by omega) (by show ((1 : Nat) : Int) * _ ≤ _; omega) (fun g => ?_)
      | refine b2s_row (l := List.replicate n.toNat 0) (junk := []) (by simp [u8s]) rfl rfl rfl (by simp) ?_
      | exact fin_nil ⟨rfl, rfl⟩
      | refine ld1_lit ?_
      | refine ldN_lit ?_
      | refine nw (fun n => ?_)
      | refine st_lit rfl ?_
      | refine need (by first | rfl | omega) ?_
      | (refine wr (fun z hz => ?_); (try rw [Int.tdiv_eq_ediv_of_nonneg (by omega)] at hz); rw [w64 (by omega) (by omega)] at hz; subst hz)
      | (refine zv (fun z hz => ?_); (try rw [Int.tmod_eq_emod_of_nonneg (by omega)] at hz); subst hz)
      | (refine ifs (fun h => ?_) (fun h => ?_) <;> (try (exfalso; first | omega | with_reducible contradiction | with_reducible exact h rfl)))
      | refine fin_nil ⟨?_, rfl⟩)
theorem full_eq {s : ByteArray} {n : Int} (h : n ≤ s.size) : Ending.returned (oneOrMany [.string s]) = .returned (.string (full s n)) := by
  have : full s n = s := if_pos h
  rw [this]; rfl
theorem full_ne {s : ByteArray} {n : Int} (h : ¬ n ≤ s.size) : Ending.returned (oneOrMany [.string (s ++ str (List.replicate (n - s.size).toNat 0))]) = .returned (.string (full s n)) := by
  have : full s n = s ++ str (List.replicate (n - s.size).toNat 0) := if_neg h
  rw [this]; rfl
theorem full01 (s : ByteArray) (n : Int) (h1 : n ≤ 140737488355328) (h2 : s.size ≤ 140737488355328) : Fnc Try.prog 57 [.string s, .int .i64 n] [] (Ret (.string (full s n)) []) := by
  refine fn_intro Try.func57 (by kernel_rfl) ?_
  repeat' ((conv => whnf); first
      | refine call_val (zeros _ (by omega) (by omega)) ?_
      | refine need (by rw [show IntKind.i64.max = 9223372036854775807 from rfl]; simp; omega) ?_
      | (refine sv (fun z hz => ?_); subst hz)
      | refine ld1_lit ?_
      | refine ldN_lit ?_
      | refine nw (fun n => ?_)
      | refine st_lit rfl ?_
      | refine need (by first | rfl | omega) ?_
      | (refine wr (fun z hz => ?_); (try rw [Int.tdiv_eq_ediv_of_nonneg (by omega)] at hz); rw [w64 (by omega) (by omega)] at hz; subst hz)
      | (refine zv (fun z hz => ?_); (try rw [Int.tmod_eq_emod_of_nonneg (by omega)] at hz); subst hz)
      | (refine ifs (fun h => ?_) (fun h => ?_) <;> (try (exfalso; first | omega | with_reducible contradiction | with_reducible exact h rfl)))
      | refine fin_nil ⟨?_, rfl⟩)
  all_goals first
    | exact full_eq (by omega)
    | exact full_ne (by omega)
def padE (s : ByteArray) (n : Int) : Int := if n < 0 ∨ 4096 < n then 2 else if n < s.size then 4 else 0
def padS (s : ByteArray) (n : Int) : ByteArray := if padE s n = 0 then full s n else str []
theorem pad_no {s : ByteArray} {n e : Int} (h : padE s n = e) (h0 : e ≠ 0) : Ending.returned (oneOrMany [.string { data := #[] }, .int .i64 e]) = .returned (.tuple #[.string (padS s n), .int .i64 (padE s n)]) := by
  have : padS s n = str [] := if_neg (by omega)
  rw [this, h]; rfl
theorem pad_ok {s : ByteArray} {n : Int} (h : 0 ≤ n) (h1 : n ≤ 4096) (h2 : s.size ≤ n) : Ending.returned (oneOrMany [.string (s ++ str (List.replicate (n - s.size).toNat 0)), .int .i64 0]) = .returned (.tuple #[.string (padS s n), .int .i64 (padE s n)]) := by
  have e : padE s n = 0 := by unfold padE; rw [if_neg (by omega), if_neg (by omega)]
  have : padS s n = full s n := if_pos e
  rw [this, e]
  unfold full
  split
  · have : (n - s.size).toNat = 0 := by omega
    rw [this]
    have : s ++ str (List.replicate 0 0) = s := ByteArray.append_empty
    rw [this]; rfl
  · rfl
theorem pad (s : ByteArray) (n : Int) (h2 : s.size ≤ 140737488355328) : Fnc Try.prog 45 [.string s, .int .i64 n] [] (Ret (.tuple #[.string (padS s n), .int .i64 (padE s n)]) []) := by
  refine fn_intro Try.func45 (by kernel_rfl) ?_
  repeat' ((conv => whnf); first
      | refine mk_row rfl rfl rfl rfl rfl (by omega) (by omega) (by show ((1 : Nat) : Int) * _ ≤ _; omega) (fun g => ?_)
      | refine b2s_row (l := List.replicate (n - s.size).toNat 0) (junk := []) (by simp [u8s]) rfl rfl rfl (by simp) ?_
      | refine need (by rw [show IntKind.i64.max = 9223372036854775807 from rfl]; simp; omega) ?_
      | (refine sv (fun z hz => ?_); subst hz)
      | refine ld1_lit ?_
      | refine ldN_lit ?_
      | refine nw (fun n => ?_)
      | refine st_lit rfl ?_
      | refine need (by first | rfl | omega) ?_
      | (refine wr (fun z hz => ?_); (try rw [Int.tdiv_eq_ediv_of_nonneg (by omega)] at hz); rw [w64 (by omega) (by omega)] at hz; subst hz)
      | (refine zv (fun z hz => ?_); (try rw [Int.tmod_eq_emod_of_nonneg (by omega)] at hz); subst hz)
      | (refine ifs (fun h => ?_) (fun h => ?_) <;> (try (exfalso; first | omega | with_reducible contradiction | with_reducible exact h rfl)))
      | refine fin_nil ⟨?_, rfl⟩)
  all_goals first
    | exact pad_no (if_pos (by omega)) (by omega)
    | exact pad_no (by unfold padE; rw [if_neg (by omega), if_pos (by omega)]) (by omega)
    | exact pad_ok (by omega) (by omega) (by omega)

end Go.Proofs.Ytjlgbihllijpbab.Be
