/- Tables of slots: a nil one; what must come at any rate. -/
import Derived.Test.YtlmhagngbfcdkaaProg
import Derived.Test.YtlmhagngbfcdkaaBeP
import Derived.Test.YtlmhagngbfcdkaaBe5
import Derived.Test.YtlmhagngbfcdkaaEu
import Derived.KernelRfl
namespace Go.Proofs.Ytlmhagngbfcdkaa.Slots
open Go Ev Be
set_option linter.unusedVariables false
set_option linter.unusedSimpArgs false
set_option maxRecDepth 100000
abbrev slF : List Value := [.int .i64 (-1), .bool false, .bool false, .bool false, .bool false, .bool false, .bool false, .bool false, .bool false, .int .i64 0]
abbrev slZ : List Value := [.int .i64 0, .bool false, .bool false, .bool false, .bool false, .bool false, .bool false, .bool false, .bool false, .int .i64 0]
abbrev tab0 : List Value := [.int .i64 2, .int .i64 (-1), .bool false, .bool false, .bool false, .bool false, .bool false, .bool false, .bool false, .bool false, .int .i64 0, .int .i64 (-1), .bool false, .bool false, .bool false, .bool false, .bool false, .bool false, .bool false, .bool false, .int .i64 0, .int .i64 (-1), .bool false, .bool false, .bool false, .bool false, .bool false, .bool false, .bool false, .bool false, .int .i64 0, .int .i64 (-1), .bool false, .bool false, .bool false, .bool false, .bool false, .bool false, .bool false, .bool false, .int .i64 0, .int .i64 (-1), .bool false, .bool false, .bool false, .bool false, .bool false, .bool false, .bool false, .bool false, .int .i64 0, .int .i64 (-1), .bool false, .bool false, .bool false, .bool false, .bool false, .bool false, .bool false, .bool false, .int .i64 0, .int .i64 (-1), .bool false, .bool false, .bool false, .bool false, .bool false, .bool false, .bool false, .bool false, .int .i64 0, .int .i64 (-1), .bool false, .bool false, .bool false, .bool false, .bool false, .bool false, .bool false, .bool false, .int .i64 0]
abbrev tab1 : List Value := [.int .i64 2, .int .i64 5, .bool false, .bool false, .bool false, .bool false, .bool false, .bool false, .bool false, .bool false, .int .i64 0, .int .i64 (-1), .bool false, .bool false, .bool false, .bool false, .bool false, .bool false, .bool false, .bool false, .int .i64 0, .int .i64 (-1), .bool false, .bool false, .bool false, .bool false, .bool false, .bool false, .bool false, .bool false, .int .i64 0, .int .i64 (-1), .bool false, .bool false, .bool false, .bool false, .bool false, .bool false, .bool false, .bool false, .int .i64 0, .int .i64 (-1), .bool false, .bool false, .bool false, .bool false, .bool false, .bool false, .bool false, .bool false, .int .i64 0, .int .i64 (-1), .bool false, .bool false, .bool false, .bool false, .bool false, .bool false, .bool false, .bool false, .int .i64 0, .int .i64 (-1), .bool false, .bool false, .bool false, .bool false, .bool false, .bool false, .bool false, .bool false, .int .i64 0, .int .i64 (-1), .bool false, .bool false, .bool false, .bool false, .bool false, .bool false, .bool false, .bool false, .int .i64 0]
abbrev tab2 : List Value := [.int .i64 2, .int .i64 5, .bool false, .bool true, .bool false, .bool false, .bool false, .bool true, .bool false, .bool false, .int .i64 0, .int .i64 (-1), .bool false, .bool false, .bool false, .bool false, .bool false, .bool false, .bool false, .bool false, .int .i64 0, .int .i64 (-1), .bool false, .bool false, .bool false, .bool false, .bool false, .bool false, .bool false, .bool false, .int .i64 0, .int .i64 (-1), .bool false, .bool false, .bool false, .bool false, .bool false, .bool false, .bool false, .bool false, .int .i64 0, .int .i64 (-1), .bool false, .bool false, .bool false, .bool false, .bool false, .bool false, .bool false, .bool false, .int .i64 0, .int .i64 (-1), .bool false, .bool false, .bool false, .bool false, .bool false, .bool false, .bool false, .bool false, .int .i64 0, .int .i64 (-1), .bool false, .bool false, .bool false, .bool false, .bool false, .bool false, .bool false, .bool false, .int .i64 0, .int .i64 (-1), .bool false, .bool false, .bool false, .bool false, .bool false, .bool false, .bool false, .bool false, .int .i64 0]
abbrev slA : List Value := [.int .i64 5, .bool false, .bool true, .bool false, .bool false, .bool false, .bool true, .bool false, .bool false, .int .i64 0]
abbrev tb (r : Nat) (cs : List Value) : Blk := ⟨r, .cells cs 59⟩
attribute [local irreducible] convert Builtin.copy_ Builtin.append_ Instr.makeSlice
theorem free : Fnc Try.prog 25 [] [] (Ret (.agg slF.toArray) []) := by
  refine fn_intro Try.func25 (by kernel_rfl) ?_
  repeat' ((conv => whnf); first
      | refine ld1_lit ?_
      | refine ldN_lit ?_
      | refine nw (fun n => ?_)
      | refine st_lit rfl ?_
      | refine need (by first | rfl | omega) ?_
      | (refine wr (fun z hz => ?_); (try rw [Int.tdiv_eq_ediv_of_nonneg (by omega)] at hz); rw [w64 (by omega) (by omega)] at hz; subst hz)
      | (refine zv (fun z hz => ?_); (try rw [Int.tmod_eq_emod_of_nonneg (by omega)] at hz); subst hz)
      | (refine ifs (fun h => ?_) (fun h => ?_) <;> (try (exfalso; first | omega | with_reducible contradiction | with_reducible exact h rfl)))
      | refine fin_nil ⟨?_, rfl⟩)
  all_goals rfl
theorem find_nil (g : Int) : Fnc Try.prog 15 [.pointer none, .int .i64 g] [] (Ret (.tuple #[.int .i64 0, .bool false]) []) := by
  refine fn_intro Try.func15 (by kernel_rfl) ?_
  repeat' ((conv => whnf); first
      | refine ld1_lit ?_
      | refine ldN_lit ?_
      | refine nw (fun n => ?_)
      | refine st_lit rfl ?_
      | refine need (by first | rfl | omega) ?_
      | (refine wr (fun z hz => ?_); (try rw [Int.tdiv_eq_ediv_of_nonneg (by omega)] at hz); rw [w64 (by omega) (by omega)] at hz; subst hz)
      | (refine zv (fun z hz => ?_); (try rw [Int.tmod_eq_emod_of_nonneg (by omega)] at hz); subst hz)
      | (refine ifs (fun h => ?_) (fun h => ?_) <;> (try (exfalso; first | omega | with_reducible contradiction | with_reducible exact h rfl)))
      | refine fin_nil ⟨?_, rfl⟩)
  all_goals rfl
theorem take_nil (g : Int) : Fnc Try.prog 14 [.pointer none, .int .i64 g] [] (Ret (.tuple #[.int .i64 0, .int .i64 1]) []) := by
  refine fn_intro Try.func14 (by kernel_rfl) ?_
  repeat' ((conv => whnf); first
      | refine ld1_lit ?_
      | refine ldN_lit ?_
      | refine nw (fun n => ?_)
      | refine st_lit rfl ?_
      | refine need (by first | rfl | omega) ?_
      | (refine wr (fun z hz => ?_); (try rw [Int.tdiv_eq_ediv_of_nonneg (by omega)] at hz); rw [w64 (by omega) (by omega)] at hz; subst hz)
      | (refine zv (fun z hz => ?_); (try rw [Int.tmod_eq_emod_of_nonneg (by omega)] at hz); subst hz)
      | (refine ifs (fun h => ?_) (fun h => ?_) <;> (try (exfalso; first | omega | with_reducible contradiction | with_reducible exact h rfl)))
      | refine fin_nil ⟨?_, rfl⟩)
  all_goals rfl
theorem at_nil (i : Int) : Fnc Try.prog 13 [.pointer none, .int .i64 i] [] (Ret (.tuple #[.agg slZ.toArray, .int .i64 1]) []) := by
  refine fn_intro Try.func13 (by kernel_rfl) ?_
  repeat' ((conv => whnf); first
      | refine ld1_lit ?_
      | refine ldN_lit ?_
      | refine nw (fun n => ?_)
      | refine st_lit rfl ?_
      | refine need (by first | rfl | omega) ?_
      | (refine wr (fun z hz => ?_); (try rw [Int.tdiv_eq_ediv_of_nonneg (by omega)] at hz); rw [w64 (by omega) (by omega)] at hz; subst hz)
      | (refine zv (fun z hz => ?_); (try rw [Int.tmod_eq_emod_of_nonneg (by omega)] at hz); subst hz)
      | (refine ifs (fun h => ?_) (fun h => ?_) <;> (try (exfalso; first | omega | with_reducible contradiction | with_reducible exact h rfl)))
      | refine fin_nil ⟨?_, rfl⟩)
  all_goals rfl
theorem slot_nil (i : Int) : Fnc Try.prog 33 [.pointer none, .int .i64 i] [] (Ret (.tuple #[.pointer none, .int .i64 1]) []) := by
  refine fn_intro Try.func33 (by kernel_rfl) ?_
  repeat' ((conv => whnf); first
      | refine ld1_lit ?_
      | refine ldN_lit ?_
      | refine nw (fun n => ?_)
      | refine st_lit rfl ?_
      | refine need (by first | rfl | omega) ?_
      | (refine wr (fun z hz => ?_); (try rw [Int.tdiv_eq_ediv_of_nonneg (by omega)] at hz); rw [w64 (by omega) (by omega)] at hz; subst hz)
      | (refine zv (fun z hz => ?_); (try rw [Int.tmod_eq_emod_of_nonneg (by omega)] at hz); subst hz)
      | (refine ifs (fun h => ?_) (fun h => ?_) <;> (try (exfalso; first | omega | with_reducible contradiction | with_reducible exact h rfl)))
      | refine fin_nil ⟨?_, rfl⟩)
  all_goals rfl
theorem free_nil (i : Int) : Fnc Try.prog 16 [.pointer none, .int .i64 i] [] (Ret (.int .i64 1) []) := by
  refine fn_intro Try.func16 (by kernel_rfl) ?_
  repeat' ((conv => whnf); first
      | refine call_val (slot_nil _) ?_
      | refine ld1_lit ?_
      | refine ldN_lit ?_
      | refine nw (fun n => ?_)
      | refine st_lit rfl ?_
      | refine need (by first | rfl | omega) ?_
      | (refine wr (fun z hz => ?_); (try rw [Int.tdiv_eq_ediv_of_nonneg (by omega)] at hz); rw [w64 (by omega) (by omega)] at hz; subst hz)
      | (refine zv (fun z hz => ?_); (try rw [Int.tmod_eq_emod_of_nonneg (by omega)] at hz); subst hz)
      | (refine ifs (fun h => ?_) (fun h => ?_) <;> (try (exfalso; first | omega | with_reducible contradiction | with_reducible exact h rfl)))
      | refine fin_nil ⟨?_, rfl⟩)
  all_goals rfl
theorem mark_nil (i p : Int) (v d : Bool) : Fnc Try.prog 17 [.pointer none, .int .i64 i, .int .i64 p, .bool v, .bool d] [] (Ret (.int .i64 1) []) := by
  refine fn_intro Try.func17 (by kernel_rfl) ?_
  repeat' ((conv => whnf); first
      | refine call_val (slot_nil _) ?_
      | refine ld1_lit ?_
      | refine ldN_lit ?_
      | refine nw (fun n => ?_)
      | refine st_lit rfl ?_
      | refine need (by first | rfl | omega) ?_
      | (refine wr (fun z hz => ?_); (try rw [Int.tdiv_eq_ediv_of_nonneg (by omega)] at hz); rw [w64 (by omega) (by omega)] at hz; subst hz)
      | (refine zv (fun z hz => ?_); (try rw [Int.tmod_eq_emod_of_nonneg (by omega)] at hz); subst hz)
      | (refine ifs (fun h => ?_) (fun h => ?_) <;> (try (exfalso; first | omega | with_reducible contradiction | with_reducible exact h rfl)))
      | refine fin_nil ⟨?_, rfl⟩)
  all_goals rfl
theorem raise_nil (i l : Int) : Fnc Try.prog 18 [.pointer none, .int .i64 i, .int .i64 l] [] (Ret (.int .i64 1) []) := by
  refine fn_intro Try.func18 (by kernel_rfl) ?_
  repeat' ((conv => whnf); first
      | refine call_val (slot_nil _) ?_
      | refine ld1_lit ?_
      | refine ldN_lit ?_
      | refine nw (fun n => ?_)
      | refine st_lit rfl ?_
      | refine need (by first | rfl | omega) ?_
      | (refine wr (fun z hz => ?_); (try rw [Int.tdiv_eq_ediv_of_nonneg (by omega)] at hz); rw [w64 (by omega) (by omega)] at hz; subst hz)
      | (refine zv (fun z hz => ?_); (try rw [Int.tmod_eq_emod_of_nonneg (by omega)] at hz); subst hz)
      | (refine ifs (fun h => ?_) (fun h => ?_) <;> (try (exfalso; first | omega | with_reducible contradiction | with_reducible exact h rfl)))
      | refine fin_nil ⟨?_, rfl⟩)
  all_goals rfl
theorem bytes_nil : Fnc Try.prog 19 [.pointer none] [] (Ret (.string { data := #[] }) []) := by
  refine fn_intro Try.func19 (by kernel_rfl) ?_
  repeat' ((conv => whnf); first
      | refine ld1_lit ?_
      | refine ldN_lit ?_
      | refine nw (fun n => ?_)
      | refine st_lit rfl ?_
      | refine need (by first | rfl | omega) ?_
      | (refine wr (fun z hz => ?_); (try rw [Int.tdiv_eq_ediv_of_nonneg (by omega)] at hz); rw [w64 (by omega) (by omega)] at hz; subst hz)
      | (refine zv (fun z hz => ?_); (try rw [Int.tmod_eq_emod_of_nonneg (by omega)] at hz); subst hz)
      | (refine ifs (fun h => ?_) (fun h => ?_) <;> (try (exfalso; first | omega | with_reducible contradiction | with_reducible exact h rfl)))
      | refine fin_nil ⟨?_, rfl⟩)
  all_goals rfl
theorem dirty_nil : Fnc Try.prog 20 [.pointer none] [] (Ret (.int .i64 0) []) := by
  refine fn_intro Try.func20 (by kernel_rfl) ?_
  repeat' ((conv => whnf); first
      | refine ld1_lit ?_
      | refine ldN_lit ?_
      | refine nw (fun n => ?_)
      | refine st_lit rfl ?_
      | refine need (by first | rfl | omega) ?_
      | (refine wr (fun z hz => ?_); (try rw [Int.tdiv_eq_ediv_of_nonneg (by omega)] at hz); rw [w64 (by omega) (by omega)] at hz; subst hz)
      | (refine zv (fun z hz => ?_); (try rw [Int.tmod_eq_emod_of_nonneg (by omega)] at hz); subst hz)
      | (refine ifs (fun h => ?_) (fun h => ?_) <;> (try (exfalso; first | omega | with_reducible contradiction | with_reducible exact h rfl)))
      | refine fin_nil ⟨?_, rfl⟩)
  all_goals rfl
theorem len_nil : Fnc Try.prog 21 [.pointer none] [] (Ret (.int .i64 0) []) := by
  refine fn_intro Try.func21 (by kernel_rfl) ?_
  repeat' ((conv => whnf); first
      | refine ld1_lit ?_
      | refine ldN_lit ?_
      | refine nw (fun n => ?_)
      | refine st_lit rfl ?_
      | refine need (by first | rfl | omega) ?_
      | (refine wr (fun z hz => ?_); (try rw [Int.tdiv_eq_ediv_of_nonneg (by omega)] at hz); rw [w64 (by omega) (by omega)] at hz; subst hz)
      | (refine zv (fun z hz => ?_); (try rw [Int.tmod_eq_emod_of_nonneg (by omega)] at hz); subst hz)
      | (refine ifs (fun h => ?_) (fun h => ?_) <;> (try (exfalso; first | omega | with_reducible contradiction | with_reducible exact h rfl)))
      | refine fin_nil ⟨?_, rfl⟩)
  all_goals rfl
theorem copy_nil : Fnc Try.prog 22 [.pointer none] [] (Ret (.pointer none) []) := by
  refine fn_intro Try.func22 (by kernel_rfl) ?_
  repeat' ((conv => whnf); first
      | refine ld1_lit ?_
      | refine ldN_lit ?_
      | refine nw (fun n => ?_)
      | refine st_lit rfl ?_
      | refine need (by first | rfl | omega) ?_
      | (refine wr (fun z hz => ?_); (try rw [Int.tdiv_eq_ediv_of_nonneg (by omega)] at hz); rw [w64 (by omega) (by omega)] at hz; subst hz)
      | (refine zv (fun z hz => ?_); (try rw [Int.tmod_eq_emod_of_nonneg (by omega)] at hz); subst hz)
      | (refine ifs (fun h => ?_) (fun h => ?_) <;> (try (exfalso; first | omega | with_reducible contradiction | with_reducible exact h rfl)))
      | refine fin_nil ⟨?_, rfl⟩)
  all_goals rfl
theorem new2 : Fnc Try.prog 8 [.int .i64 2] [] (fun e A => ∃ r, e = .returned (.tuple #[pt r, .int .i64 0]) ∧ A = [tb r tab0]) := by
  refine fn_intro Try.func8 (by kernel_rfl) ?_
  repeat' ((conv => whnf); first
      | refine loop_n 9 ?_
      | refine draw_any 7 [(0, true), (1, true), (3, true), (4, true), (2, false), (5, true), (6, false)] [] rfl (by kernel_rfl) ?_
      | refine kept_nil ?_
      | refine call_val free ?_
      | (refine nv (fun z hz => ?_); (try simp at hz); replace hz := hz.symm; subst hz)
      | exact fin_all ⟨_, rfl, rfl⟩
      | refine ld1_lit ?_
      | refine ldN_lit ?_
      | refine nw (fun n => ?_)
      | refine st_lit rfl ?_
      | refine need (by first | rfl | omega) ?_
      | (refine wr (fun z hz => ?_); (try rw [Int.tdiv_eq_ediv_of_nonneg (by omega)] at hz); rw [w64 (by omega) (by omega)] at hz; subst hz)
      | (refine zv (fun z hz => ?_); (try rw [Int.tmod_eq_emod_of_nonneg (by omega)] at hz); subst hz)
      | (refine ifs (fun h => ?_) (fun h => ?_) <;> (try (exfalso; first | omega | with_reducible contradiction | with_reducible exact h rfl))))
theorem find0 (r : Nat) : Fnc Try.prog 15 [pt r, .int .i64 5] [tb r tab0] (Ret (.tuple #[.int .i64 0, .bool false]) [tb r tab0]) := by
  refine fn_intro Try.func15 (by kernel_rfl) ?_
  repeat' ((conv => whnf); first
      | refine loop_n 9 ?_
      | (refine nv (fun z hz => ?_); (try simp at hz); replace hz := hz.symm; subst hz)
      | refine ld1_lit ?_
      | refine ldN_lit ?_
      | refine nw (fun n => ?_)
      | refine st_lit rfl ?_
      | refine need (by first | rfl | omega) ?_
      | (refine wr (fun z hz => ?_); (try rw [Int.tdiv_eq_ediv_of_nonneg (by omega)] at hz); rw [w64 (by omega) (by omega)] at hz; subst hz)
      | (refine zv (fun z hz => ?_); (try rw [Int.tmod_eq_emod_of_nonneg (by omega)] at hz); subst hz)
      | (refine ifs (fun h => ?_) (fun h => ?_) <;> (try (exfalso; first | omega | with_reducible contradiction | with_reducible exact h rfl))))
  all_goals (conv => whnf)
  all_goals exact fin_pick (.cons (by repeat (first | exact .here | apply Take.there)) .nil) ⟨rfl, rfl⟩
theorem find2 (r : Nat) : Fnc Try.prog 15 [pt r, .int .i64 5] [tb r tab2] (Ret (.tuple #[.int .i64 0, .bool true]) [tb r tab2]) := by
  refine fn_intro Try.func15 (by kernel_rfl) ?_
  repeat' ((conv => whnf); first
      | refine loop_n 9 ?_
      | (refine nv (fun z hz => ?_); (try simp at hz); replace hz := hz.symm; subst hz)
      | refine ld1_lit ?_
      | refine ldN_lit ?_
      | refine nw (fun n => ?_)
      | refine st_lit rfl ?_
      | refine need (by first | rfl | omega) ?_
      | (refine wr (fun z hz => ?_); (try rw [Int.tdiv_eq_ediv_of_nonneg (by omega)] at hz); rw [w64 (by omega) (by omega)] at hz; subst hz)
      | (refine zv (fun z hz => ?_); (try rw [Int.tmod_eq_emod_of_nonneg (by omega)] at hz); subst hz)
      | (refine ifs (fun h => ?_) (fun h => ?_) <;> (try (exfalso; first | omega | with_reducible contradiction | with_reducible exact h rfl))))
  all_goals (conv => whnf)
  all_goals exact fin_pick (.cons (by repeat (first | exact .here | apply Take.there)) .nil) ⟨rfl, rfl⟩
theorem take0 (r : Nat) : Fnc Try.prog 14 [pt r, .int .i64 5] [tb r tab0] (Ret (.tuple #[.int .i64 0, .int .i64 0]) [tb r tab1]) := by
  refine fn_intro Try.func14 (by kernel_rfl) ?_
  repeat' ((conv => whnf); first
      | refine call_same (find0 r) ?_
      | refine loop_n 3 ?_
      | (refine nv (fun z hz => ?_); (try simp at hz); replace hz := hz.symm; subst hz)
      | exact fin_all ⟨rfl, rfl⟩
      | refine ld1_lit ?_
      | refine ldN_lit ?_
      | refine nw (fun n => ?_)
      | refine st_lit rfl ?_
      | refine need (by first | rfl | omega) ?_
      | (refine wr (fun z hz => ?_); (try rw [Int.tdiv_eq_ediv_of_nonneg (by omega)] at hz); rw [w64 (by omega) (by omega)] at hz; subst hz)
      | (refine zv (fun z hz => ?_); (try rw [Int.tmod_eq_emod_of_nonneg (by omega)] at hz); subst hz)
      | (refine ifs (fun h => ?_) (fun h => ?_) <;> (try (exfalso; first | omega | with_reducible contradiction | with_reducible exact h rfl))))
theorem slot1 (r : Nat) : Fnc Try.prog 33 [pt r, .int .i64 0] [tb r tab1] (Ret (.tuple #[.pointer (some ⟨r, 1, none⟩), .int .i64 0]) [tb r tab1]) := by
  refine fn_intro Try.func33 (by kernel_rfl) ?_
  repeat' ((conv => whnf); first
      | (refine nv (fun z hz => ?_); (try simp at hz); replace hz := hz.symm; subst hz)
      | exact fin_all ⟨rfl, rfl⟩
      | refine ld1_lit ?_
      | refine ldN_lit ?_
      | refine nw (fun n => ?_)
      | refine st_lit rfl ?_
      | refine need (by first | rfl | omega) ?_
      | (refine wr (fun z hz => ?_); (try rw [Int.tdiv_eq_ediv_of_nonneg (by omega)] at hz); rw [w64 (by omega) (by omega)] at hz; subst hz)
      | (refine zv (fun z hz => ?_); (try rw [Int.tmod_eq_emod_of_nonneg (by omega)] at hz); subst hz)
      | (refine ifs (fun h => ?_) (fun h => ?_) <;> (try (exfalso; first | omega | with_reducible contradiction | with_reducible exact h rfl))))
theorem mark1 (r : Nat) : Fnc Try.prog 17 [pt r, .int .i64 0, .int .i64 1, .bool true, .bool true] [tb r tab1] (Ret (.int .i64 0) [tb r tab2]) := by
  refine fn_intro Try.func17 (by kernel_rfl) ?_
  repeat' ((conv => whnf); first
      | refine call_same (slot1 r) ?_
      | refine draw_any 8 [(0, true), (1, true), (2, true), (3, true), (4, true), (5, true), (6, true), (7, true), (8, true), (10, true), (11, true), (9, false), (12, true), (13, false)] [] rfl (by kernel_rfl) ?_
      | refine kept_nil ?_
      | (refine nv (fun z hz => ?_); (try simp at hz); replace hz := hz.symm; subst hz)
      | exact fin_all ⟨rfl, rfl⟩
      | refine ld1_lit ?_
      | refine ldN_lit ?_
      | refine nw (fun n => ?_)
      | refine st_lit rfl ?_
      | refine need (by first | rfl | omega) ?_
      | (refine wr (fun z hz => ?_); (try rw [Int.tdiv_eq_ediv_of_nonneg (by omega)] at hz); rw [w64 (by omega) (by omega)] at hz; subst hz)
      | (refine zv (fun z hz => ?_); (try rw [Int.tmod_eq_emod_of_nonneg (by omega)] at hz); subst hz)
      | (refine ifs (fun h => ?_) (fun h => ?_) <;> (try (exfalso; first | omega | with_reducible contradiction | with_reducible exact h rfl))))
end Go.Proofs.Ytlmhagngbfcdkaa.Slots
