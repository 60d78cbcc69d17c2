/- The law BePads: its Go function returns true. -/
import Derived.Test.YtjlgbihllijpbaaBe4
import Derived.Test.YtjlgbihllijpbaaBe5
namespace Go.Proofs.Ytjlgbihllijpbaa.Be
open Go Ev
set_option linter.unusedVariables false
set_option linter.unusedSimpArgs false

theorem padE_arg {s : ByteArray} {w : Int} (h : w < 0 ∨ 4096 < w) : padE s w = 2 := if_pos h
theorem padE_big {s : ByteArray} {w : Int} (h : ¬ (w < 0 ∨ 4096 < w)) (h' : w < s.size) : padE s w = 4 := by rw [padE, if_neg h, if_pos h']
theorem padE_ok {s : ByteArray} {w : Int} (h : ¬ (w < 0 ∨ 4096 < w)) (h' : ¬ w < s.size) : padE s w = 0 := by rw [padE, if_neg h, if_neg h']
theorem padS_no {s : ByteArray} {w : Int} (h : w < 0 ∨ 4096 < w ∨ w < s.size) : padS s w = { data := #[] } := by
  refine if_neg ?_
  by_cases h1 : w < 0 ∨ 4096 < w
  · rw [padE_arg h1]; omega
  · rw [padE_big h1 (by omega)]; omega
theorem padS_ok {s : ByteArray} {w : Int} (h : ¬ (w < 0 ∨ 4096 < w)) (h' : ¬ w < s.size) : padS s w = full s w := if_pos (padE_ok h h')
theorem rowE_big {w : Int} {l : List Int} (h : 512 < l.length) : rowE w l = 4 := if_pos h
theorem rowE_arg {w : Int} {l : List Int} (h : ¬ 512 < l.length) (h' : w < 1 ∨ 8 < w) : rowE w l = 2 := by rw [rowE, if_neg h, if_pos h']
theorem rowE_fe {w : Int} {l : List Int} (h : ¬ 512 < l.length) (h' : ¬ (w < 1 ∨ 8 < w)) : rowE w l = fe w l := by rw [rowE, if_neg h, if_neg h']
theorem rowS_no {w : Int} {l : List Int} (h : rowE w l ≠ 0) : rowS w l = { data := #[] } := if_neg h
theorem rowS_ok {w : Int} {l : List Int} (h : rowE w l = 0) : rowS w l = str (cat w l) := if_pos h

theorem nil_str (w : Int) (l : List Int) : ({ data := #[] } : ByteArray) = str (cat w (l.take 0)) := rfl
theorem fe_nil (w : Int) (l : List Int) : fe w (l.take 0) = 0 := rfl
theorem cat_next {w x : Int} {l : List Int} {i : Nat} (hx : l[i]? = some x) : str (cat w (l.take i)) ++ putS x w = str (cat w (l.take (i + 1))) := by
  rw [List.take_add_one, hx]
  show _ = str (cat w (l.take i ++ [x]))
  rw [cat_snoc, ← str_append, str_eta]
theorem row_step {w x : Int} {l : List Int} {i : Nat} (h1 : ¬ 512 < l.length) (h2 : ¬ (w < 1 ∨ 8 < w)) (hx : l[i]? = some x) (hf : fe w (l.take i) = 0) (h : ¬ putE x w = 0) : rowE w l = putE x w := by
  have e := fe_take hx hf
  rw [rowE_fe h1 h2, fe_stop (i := i + 1) (by rw [e]; exact h), e]
theorem row_all {w : Int} {l : List Int} {i : Nat} (h1 : ¬ 512 < l.length) (h2 : ¬ (w < 1 ∨ 8 < w)) (hi : l.length ≤ i) (hf : fe w (l.take i) = 0) : rowE w l = 0 ∧ rowS w l = str (cat w (l.take i)) := by
  rw [List.take_of_length_le hi] at *
  have e : rowE w l = 0 := by rw [rowE_fe h1 h2, hf]
  exact ⟨e, rowS_ok e⟩

attribute [local irreducible] xorS xorE putS putE getN getE padS padE rowS rowE full fe cat

set_option maxHeartbeats 2000000 in
theorem bePads (s : ByteArray) (w : Int) (l : List Int) (S : Sl) (hS : S.ok l.length) (hl : l.length ≤ 9223372036854775807) (hs : s.size ≤ 140737488351232) (hx : ∀ x ∈ l, x ≤ 9223372036854775807) :
    Fnc Try.prog 9 [.string s, .int .i64 w, S.val l.length] (S.blk (ints l)) (Ret (.bool true) (S.blk (ints l))) := by
  refine fn_intro Try.func9 (by kernel_rfl) ?_
  repeat' ((conv => whnf); first
      | refine call_val awake ?_
      | refine call_val (pad s w (by omega)) ?_
      | refine call_val (full01 s w (by omega) (by omega)) ?_
      | refine call_same (row w l S hS hl) ?_
      | refine loop_rule [11, 12] (fun vs M m => ∃ i : Nat, vs = [.string (str (cat w (l.take i))), .int .i64 i] ∧ i ≤ l.length ∧ fe w (l.take i) = 0 ∧ m = l.length - i ∧ M = S.blk (ints l)) rfl ?_ ?_
      | exact fin_all ⟨ret_bool rfl, rfl⟩
      | refine ld1_lit ?_
      | refine ldN_lit ?_
      | refine nw (fun n => ?_)
      | refine st_lit rfl ?_
      | refine need (by first | rfl | omega) ?_
      | (refine wr (fun z hz => ?_); (try rw [Int.tdiv_eq_ediv_of_nonneg (by omega)] at hz); rw [w64 (by omega) (by omega)] at hz; subst hz)
      | (refine zv (fun z hz => ?_); (try rw [Int.tmod_eq_emod_of_nonneg (by omega)] at hz); subst hz)
      | (refine ifs (fun h => ?_) (fun h => ?_) <;> (try (exfalso; first | omega | with_reducible contradiction | with_reducible exact h rfl))))
  all_goals first
    | (exfalso; exact ‹¬ padS s w = _› (padS_no (by omega)))
    | (exfalso; exact ‹¬ padS s w = _› (padS_ok (by omega) (by omega)))
    | (exfalso; exact ‹¬ padE s w = _› (padE_arg (by omega)))
    | (exfalso; exact ‹¬ padE s w = _› (padE_big (by omega) (by omega)))
    | (exfalso; exact ‹¬ padE s w = _› (padE_ok (by omega) (by omega)))
    | (exfalso; exact ‹¬ rowE w l = _› (rowE_big (by omega)))
    | (exfalso; exact ‹¬ rowE w l = _› (rowE_arg (by omega) (by omega)))
    | (exfalso; exact ‹¬ rowS w l = _› (rowS_no (by rw [rowE_big (by omega)]; decide)))
    | (exfalso; exact ‹¬ rowS w l = _› (rowS_no (by rw [rowE_arg (by omega) (by omega)]; decide)))
    | skip
  all_goals first | exact fin_all ⟨_, 0, by rw [nil_str w l]; rfl, by omega, fe_nil w l, rfl, rfl⟩ | skip
  all_goals (rintro vs junk M' m ⟨i, rfl, hi, hf, rfl, rfl⟩)
  repeat' ((conv => whnf); first
      | refine call_val awake ?_
      | (rcases S with ⟨p, c⟩ | ⟨b, off, cap⟩; (exfalso; have hS : l.length = 0 := hS; omega))
      | (refine need (by constructor <;> omega) ?_)
      | (refine nv (fun z hz => ?_); simp at hz; replace hz := hz.symm; subst hz)
      | (obtain ⟨x, hxi⟩ : ∃ x, l[i]? = some x := ⟨l[i]'(by omega), List.getElem?_eq_getElem (by omega)⟩; refine ld1_ro (o := off) (cs := ints l) (j := i) rfl (by simp only [List.getElem?_map, hxi]; rfl) ?_)
      | refine call_val (put01 _ _ (hx _ (List.mem_of_getElem? hxi))) ?_
      | (have hc := cat_le w (l.take i); have hp := putS_le (x := x) (w := w); refine need (by rw [show IntKind.i64.max = 9223372036854775807 from rfl]; rw [List.length_take] at hc; simp; omega) ?_; refine sv (fun z hz => ?_); rw [cat_next hxi] at hz; subst hz)
      | exact fin_all ⟨ret_bool rfl, rfl⟩
      | refine ld1_lit ?_
      | refine ldN_lit ?_
      | refine nw (fun n => ?_)
      | refine st_lit rfl ?_
      | refine need (by first | rfl | omega) ?_
      | (refine wr (fun z hz => ?_); (try rw [Int.tdiv_eq_ediv_of_nonneg (by omega)] at hz); rw [w64 (by omega) (by omega)] at hz; subst hz)
      | (refine zv (fun z hz => ?_); (try rw [Int.tmod_eq_emod_of_nonneg (by omega)] at hz); subst hz)
      | (refine ifs (fun h => ?_) (fun h => ?_) <;> (try (exfalso; first | omega | with_reducible contradiction | with_reducible exact h rfl))))
  all_goals first
    | (exfalso; exact ‹¬ rowE w l = putE _ w› (row_step (by omega) (by omega) hxi hf ‹_›))
    | (exfalso; exact ‹¬ rowS w l = _› (rowS_no (by rw [row_step (by omega) (by omega) hxi hf ‹_›]; assumption)))
    | (exfalso; exact ‹¬ rowE w l = 0› (row_all (by omega) (by omega) (by omega) hf).1)
    | (exfalso; exact ‹¬ rowS w l = _› (row_all (by omega) (by omega) (by omega) hf).2)
    | skip
  all_goals try (conv => whnf)
  all_goals exact ⟨rfl, fin_all ⟨l.length - (i + 1), by omega, i + 1, rfl, by omega, by rw [fe_take hxi hf]; assumption, rfl, rfl⟩⟩
end Go.Proofs.Ytjlgbihllijpbaa.Be
