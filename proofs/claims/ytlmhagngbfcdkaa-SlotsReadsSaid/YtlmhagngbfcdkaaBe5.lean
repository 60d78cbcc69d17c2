/- be.Row. -/
import Derived.Test.YtlmhagngbfcdkaaProg
import Derived.Test.YtlmhagngbfcdkaaBe
import Derived.Test.YtlmhagngbfcdkaaBeM4
import Derived.Test.YtlmhagngbfcdkaaEs
import Derived.KernelRfl
namespace Go.Proofs.Ytlmhagngbfcdkaa.Be
open Go Ev
set_option linter.unusedVariables false
set_option maxRecDepth 100000
set_option linter.unusedSimpArgs false

abbrev ints (l : List Int) : List Value := l.map (.int .i64)
theorem row_no {w e : Int} {l : List Int} {A : List Blk} (h : rowE w l = e) (h0 : e ≠ 0) : Ret (.tuple #[.string (rowS w l), .int .i64 (rowE w l)]) A (.returned (oneOrMany [.string { data := #[] }, .int .i64 e])) A := by
  have : rowS w l = str [] := if_neg (by omega)
  rw [this, h]; exact ⟨rfl, rfl⟩
theorem row_bad {w x : Int} {l : List Int} {i : Nat} {A : List Blk} (h1 : ¬ 512 < l.length) (h2 : ¬ (w < 1 ∨ 8 < w)) (hx : l[i]? = some x) (hf : fe w (l.take i) = 0) (h : ¬ putE x w = 0) :
    Ret (.tuple #[.string (rowS w l), .int .i64 (rowE w l)]) A (.returned (oneOrMany [.string { data := #[] }, .int .i64 (putE x w)])) A := by
  have e := fe_take hx hf
  refine row_no ?_ h
  rw [rowE, if_neg h1, if_neg h2, fe_stop (i := i + 1) (by rw [e]; exact h), e]
theorem row_good {w : Int} {l : List Int} {i : Nat} {A : List Blk} (h1 : ¬ 512 < l.length) (h2 : ¬ (w < 1 ∨ 8 < w)) (hi : l.length ≤ i) (hf : fe w (l.take i) = 0) :
    Ret (.tuple #[.string (rowS w l), .int .i64 (rowE w l)]) A (.returned (oneOrMany [.string (str (cat w (l.take i))), .int .i64 0])) A := by
  rw [List.take_of_length_le hi] at *
  have e : rowE w l = 0 := by rw [rowE, if_neg h1, if_neg h2, hf]
  have e2 : rowS w l = str (cat w l) := if_pos e
  rw [e2, e]; exact ⟨rfl, rfl⟩
theorem row (w : Int) (l : List Int) (S : Sl) (hS : S.ok l.length) (hl : l.length ≤ 9223372036854775807) :
    Fnc Try.prog 35 [.int .i64 w, S.val l.length] (S.blk (ints l)) (Ret (.tuple #[.string (rowS w l), .int .i64 (rowE w l)]) (S.blk (ints l))) := by
  refine fn_intro Try.func35 (by kernel_rfl) ?_
  repeat' ((conv => whnf); first
      | refine ld1_lit ?_
      | refine ldN_lit ?_
      | refine nw (fun n => ?_)
      | refine st_lit rfl ?_
      | refine need (by first | rfl | omega) ?_
      | (refine wr (fun z hz => ?_); (try rw [Int.tdiv_eq_ediv_of_nonneg (by omega)] at hz); rw [w64 (by omega) (by omega)] at hz; subst hz)
      | (refine zv (fun z hz => ?_); (try rw [Int.tmod_eq_emod_of_nonneg (by omega)] at hz); subst hz)
      | (refine ifs (fun h => ?_) (fun h => ?_) <;> (try (exfalso; first | omega | with_reducible contradiction | with_reducible exact h rfl)))
      | refine fin_nil ⟨?_, rfl⟩)
  rotate_right
  · rename_i b0 h1 h2
    refine loop_rule [23] (fun vs M m => ∃ (i : Nat) (R : Own), vs = [.int .i64 i] ∧ i ≤ l.length ∧ fe w (l.take i) = 0 ∧ R.ok 1 (cat w (l.take i)).length (u8s (cat w (l.take i))) ∧ m = l.length - i ∧
      M = ⟨n, .cells [R.val (cat w (l.take i)).length] 77⟩ :: ⟨b0, .cells [.int .i64 w] 3⟩ :: (R.blk 5 (u8s (cat w (l.take i))) ++ S.blk (ints l))) rfl ?_ ?_
    · exact fin_all ⟨_, 0, .nil, rfl, by omega, rfl, ⟨rfl, rfl⟩, rfl, rfl⟩
    rintro vs junk M' m ⟨i, R, rfl, hi, hf, hR, rfl, rfl⟩
    repeat' ((conv => whnf); first
        | (rcases S with ⟨p, c⟩ | ⟨b, off, cap⟩; (exfalso; have hS : l.length = 0 := hS; omega))
        | (refine need (by constructor <;> omega) ?_)
        | (refine nv (fun z hz => ?_); simp at hz; replace hz := hz.symm; subst hz)
        | (obtain ⟨x, hx⟩ : ∃ x, l[i]? = some x := ⟨l[i]'(by omega), List.getElem?_eq_getElem (by omega)⟩; refine ld1_ro (o := off) (cs := ints l) (j := i) rfl (by simp only [List.getElem?_map, hx]; rfl) ?_)
        | refine call_in Try.func40 (by kernel_rfl) ?_
        | refine call_val (put _ _) ?_
        | refine b2s_own (t := 5) (l := cat w (l.take i)) hR rfl rfl rfl ?_
        | refine app_str (e := 5) (xs := u8s (cat w (l.take i))) rfl rfl rfl rfl rfl rfl hR (by have := cat_le w (l.take i); have := putS_le (x := x) (w := w); rw [List.length_take] at *; omega) (fun R' hR' => ?_)
        | exact fin_drop (fin_drop (fin_right (fin_all (row_bad (by omega) (by omega) hx hf ‹_›))))
        | exact fin_drop (fin_drop (fin_right (fin_all (row_good (i := i) (by omega) (by omega) (by omega) hf))))
        | refine fin_all ?_
        | refine ld1_lit ?_
        | refine ldN_lit ?_
        | refine nw (fun n => ?_)
        | refine st_lit rfl ?_
        | refine need (by first | rfl | omega) ?_
        | (refine wr (fun z hz => ?_); (try rw [Int.tdiv_eq_ediv_of_nonneg (by omega)] at hz); rw [w64 (by omega) (by omega)] at hz; subst hz)
        | (refine zv (fun z hz => ?_); (try rw [Int.tmod_eq_emod_of_nonneg (by omega)] at hz); subst hz)
        | (refine ifs (fun h => ?_) (fun h => ?_) <;> (try (exfalso; first | omega | with_reducible contradiction | with_reducible exact h rfl))))
    have ec : cat w (l.take (i + 1)) = cat w (l.take i) ++ (putS x w).data.toList := by
      rw [List.take_add_one, hx]; exact cat_snoc w _ x
    have el : (cat w (l.take (i + 1))).length = (cat w (l.take i)).length + (putS x w).size := by
      rw [ec, List.length_append]; rfl
    have eu : u8s (cat w (l.take (i + 1))) = u8s (cat w (l.take i)) ++ u8s (putS x w).data.toList := by rw [ec, u8s_append]
    (conv => whnf)
    refine ⟨rfl, fin_all ⟨l.length - (i + 1), by omega, i + 1, R', rfl, by omega, by rw [fe_take hx hf]; exact h, by rw [el, eu]; exact hR', rfl, ?_⟩⟩
    rw [el, eu]
  all_goals (conv => whnf)
  · exact fin_drop (fin_all (row_no (if_pos (by omega)) (by omega)))
  · exact fin_drop (fin_all (row_no (by rw [rowE, if_neg (by omega), if_pos (by omega)]) (by omega)))
  · exact fin_drop (fin_all (row_no (by rw [rowE, if_neg (by omega), if_pos (by omega)]) (by omega)))
end Go.Proofs.Ytlmhagngbfcdkaa.Be
