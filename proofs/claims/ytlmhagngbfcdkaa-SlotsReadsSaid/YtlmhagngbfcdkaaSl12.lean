/- The law SlotsDo: every call of a table is answered as the document says. -/
import Derived.Test.YtlmhagngbfcdkaaSl10
import Derived.Test.YtlmhagngbfcdkaaSl11
import Derived.Test.YtlmhagngbfcdkaaActIn
import Derived.Test.YtlmhagngbfcdkaaEs2
namespace Go.Proofs.Ytlmhagngbfcdkaa.Slots
open Go Ev Be
set_option linter.unusedVariables false
set_option linter.unusedSimpArgs false
set_option maxRecDepth 100000
/-- An act. -/
structure Act6 where
  k : Int
  g : Int
  s : Int
  p : Int
  v : Bool
  d : Bool
abbrev aL (a : Act6) : List Value := actL a.k a.g a.s a.p a.v a.d
def aLs (l : List Act6) : List Value := (l.map aL).flatten
theorem aL_len {l : List Act6} : ∀ x ∈ l.map aL, x.length = 6 := by
  intro x hx; obtain ⟨p, _, rfl⟩ := List.mem_map.1 hx; rfl
theorem aL_at {l : List Act6} {i : Nat} {a : Act6} (h : l[i]? = some a) : ∀ j v, (aL a)[j]? = some v → (aLs l)[i * 6 + j]? = some v := by
  intro j v hj
  have hjl := (List.getElem?_eq_some_iff.1 hj).1
  rw [← hj]
  exact flat_get (aL_len (l := l)) (by rw [List.getElem?_map, h]; rfl) hjl
theorem ldN_ro {M : List Blk} {n off o q m : Nat} {cs : List Value} {K : List Value → Prop} [h : Look M n (.ro o cs)] (l : List Value) (ho : off = o + q) (hl : ∀ j v, l[j]? = some v → cs[q + j]? = some v) (hm : l.length = m) (hk : K l) : LdN M n off m K := by
  refine ⟨fun A w0 w st => ⟨l, hm, fun j v hj => ?_, hk⟩⟩
  have := st.has _ h.mem
  simp only [Blk.holds] at this
  rw [ho, Nat.add_assoc]
  exact this.2 (q + j) v (hl j v hj)
theorem rl_congr {n : Nat} {s s' : Nat → Sl10} (h : ∀ j, j < n → s j = s' j) : rl n s = rl n s' := by
  unfold rl
  congr 1
  refine List.map_congr_left fun i hi => ?_
  rw [h i (List.mem_range.1 hi)]
theorem tB_free (r : Nat) (n : Int) : tB r n (fun j => if j < 8 then freeS else zeroS) = tB r n (fun _ => freeS) := by
  have : tc n (fun j => if j < 8 then freeS else zeroS) = tc n (fun _ => freeS) := by
    unfold tc
    rw [rl_congr (s' := fun _ => freeS) (fun j hj => if_pos hj)]
  unfold tB
  rw [this]
theorem good_free (q : Nat) : Good q (fun _ => freeS) := ⟨fun _ _ => rfl, fun _ _ => okS_free, fun _ _ => nice_free, fun _ _ _ _ _ h => by have e : freeS.g = -1 := rfl; change 0 ≤ freeS.g at h; omega⟩
theorem act_of {H : Type} {enc : TypeId × Value → H} {w : World} {base : Nat} {spare : Nat → Bool} {held : Bool} {r : List Value}
    (h : r.length = 6 ∧ ∃ n y, DataW.trod enc Try.prog w base spare held n 33 r = some y) : ∃ a : Act6, r = aL a ∧ True := by
  obtain ⟨_, n, y, h⟩ := h
  obtain ⟨k, g, s, p, v, d, hc⟩ := act_in (trod_fits 3 _ _ kAct cellsAct n r y h)
  exact ⟨⟨k, g, s, p, v, d⟩, hc, trivial⟩
attribute [local irreducible] rl tc bu biX rowI rowE rowS padE padS by1 pw full aLs cnt convert Builtin.copy_ Builtin.append_ Instr.makeSlice
set_option maxHeartbeats 4000000 in
theorem slotsDo (n : Int) (l : List Act6) (S : Sl) (hS : S.ok l.length) (hl : l.length ≤ 9223372036854775807) :
    Fnc Try.prog 3 [.int .i64 n, S.val l.length] (S.blk (aLs l)) (Ret (.bool true) (S.blk (aLs l))) := by
  by_cases hn : n < 1 ∨ 8 < n
  · refine fn_intro Try.func3 (by kernel_rfl) ?_
    repeat' ((conv => whnf); first
        | refine call_val (new_out n hn) ?_
        | refine call_val awake ?_
        | exact fin_all ⟨ret_bool rfl, rfl⟩
        | refine ld1_lit ?_
        | refine ldN_lit ?_
        | refine nw (fun n => ?_)
        | refine st_lit rfl ?_
        | refine need (by first | rfl | omega) ?_
        | (refine wr (fun z hz => ?_); (try rw [Int.tdiv_eq_ediv_of_nonneg (by omega)] at hz); rw [w64 (by omega) (by omega)] at hz; subst hz)
        | (refine zv (fun z hz => ?_); (try rw [Int.tmod_eq_emod_of_nonneg (by omega)] at hz); subst hz)
        | (refine ifs (fun h => ?_) (fun h => ?_) <;> (try (exfalso; first | omega | with_reducible contradiction | with_reducible exact h rfl)))
        | refine fin_nil ⟨?_, rfl⟩)
  obtain ⟨q, rfl⟩ := Int.eq_ofNat_of_zero_le (show 0 ≤ n by omega)
  refine fn_intro Try.func3 (by kernel_rfl) ?_
  repeat' ((conv => whnf); first
      | (refine call_fn (new_in q (by omega) (by omega)) .nil (fun e A' hq => ?_); obtain ⟨r, h1, h2⟩ := hq; subst h1; rw [tB_free] at h2; subst h2)
      | refine call_val awake ?_
      | (refine call_fn (rnew q (by omega) (by omega)) .nil (fun e A' hq => ?_); obtain ⟨g, cap, junk, h1, h2⟩ := hq; subst h1; subst h2)
      | refine loop_rule [7, 8] (fun vs M m => ∃ (i g cap : Nat) (s : Nat → Sl10) (junk : List Value), vs = [lv g q cap, .int .i64 i] ∧ Good q s ∧ i ≤ l.length ∧ i ≤ 50 ∧ m = l.length - i ∧ M = lb g q s junk :: tB r q s :: S.blk (aLs l)) rfl ?_ ?_
      | refine ld1_lit ?_
      | refine ldN_lit ?_
      | refine nw (fun n => ?_)
      | refine st_lit rfl ?_
      | refine need (by first | rfl | omega) ?_
      | (refine wr (fun z hz => ?_); (try rw [Int.tdiv_eq_ediv_of_nonneg (by omega)] at hz); rw [w64 (by omega) (by omega)] at hz; subst hz)
      | (refine zv (fun z hz => ?_); (try rw [Int.tmod_eq_emod_of_nonneg (by omega)] at hz); subst hz)
      | (refine ifs (fun h => ?_) (fun h => ?_) <;> (try (exfalso; first | omega | with_reducible contradiction | with_reducible exact h rfl))))
  all_goals (conv => whnf)
  · exact fin_all ⟨_, 0, g, cap, _, junk, rfl, good_free q, by omega, by omega, rfl, rfl⟩
  rintro vs junk1 M' m ⟨i, g, cap, s, junk, rfl, hG, hi, hi5, rfl, rfl⟩
  obtain hi' | ⟨a, hxi⟩ : l.length ≤ i ∨ ∃ a, l[i]? = some a := by
    by_cases h : i < l.length
    · exact .inr ⟨_, List.getElem?_eq_getElem h⟩
    · exact .inl (by omega)
  all_goals try have hin : i < l.length := (List.getElem?_eq_some_iff.1 hxi).1
  repeat' ((conv => whnf); first
      | (rcases S with ⟨p, c⟩ | ⟨b, off, cap9⟩; (exfalso; have hS : l.length = 0 := hS; omega))
      | (refine nv (fun z hz => ?_); (try simp at hz); replace hz := hz.symm; subst hz)
      | refine ldN_ro (o := off) (cs := aLs l) (q := i * 6) (aL a) rfl (aL_at hxi) rfl ?_
      | (refine call_fn (do_ r g q cap s junk a.k a.g a.s a.p a.v a.d (by omega) hG) (.cons (by first | exact .here | exact .there .here | exact .there (.there .here) | exact .there (.there (.there .here)) | exact .there (.there (.there (.there .here))) | exact .there (.there (.there (.there (.there .here)))) | exact .there (.there (.there (.there (.there (.there .here)))))) (.cons (by first | exact .here | exact .there .here | exact .there (.there .here) | exact .there (.there (.there .here)) | exact .there (.there (.there (.there .here))) | exact .there (.there (.there (.there (.there .here)))) | exact .there (.there (.there (.there (.there (.there .here)))))) .nil)) (fun e A' hq' => ?_); obtain ⟨s', g', cap', junk', hG', h1, h2⟩ := hq'; subst h1; subst h2)
      | refine call_ret (same r g' q cap' s' junk' (by omega) (by omega) hG') (.cons (by first | exact .here | exact .there .here | exact .there (.there .here) | exact .there (.there (.there .here)) | exact .there (.there (.there (.there .here))) | exact .there (.there (.there (.there (.there .here)))) | exact .there (.there (.there (.there (.there (.there .here)))))) (.cons (by first | exact .here | exact .there .here | exact .there (.there .here) | exact .there (.there (.there .here)) | exact .there (.there (.there (.there .here))) | exact .there (.there (.there (.there (.there .here)))) | exact .there (.there (.there (.there (.there (.there .here)))))) .nil)) ?_
      | refine ld1_lit ?_
      | refine ldN_lit ?_
      | refine nw (fun n => ?_)
      | refine st_lit rfl ?_
      | refine need (by first | rfl | omega) ?_
      | (refine wr (fun z hz => ?_); (try rw [Int.tdiv_eq_ediv_of_nonneg (by omega)] at hz); rw [w64 (by omega) (by omega)] at hz; subst hz)
      | (refine zv (fun z hz => ?_); (try rw [Int.tmod_eq_emod_of_nonneg (by omega)] at hz); subst hz)
      | (refine ifs (fun h => ?_) (fun h => ?_) <;> (try (exfalso; first | omega | with_reducible contradiction | with_reducible exact h rfl))))
  all_goals (conv => whnf)
  · exact fin_right (K := [_, _]) (fin_all ⟨ret_bool rfl, rfl⟩)
  · exact ⟨rfl, fin_pick (A' := [lb g' q s' junk', tB r q s', ⟨b, .ro off (aLs l)⟩]) (.cons (by first | exact .here | exact .there .here | exact .there (.there .here) | exact .there (.there (.there .here)) | exact .there (.there (.there (.there .here))) | exact .there (.there (.there (.there (.there .here)))) | exact .there (.there (.there (.there (.there (.there .here)))))) (.cons (by first | exact .here | exact .there .here | exact .there (.there .here) | exact .there (.there (.there .here)) | exact .there (.there (.there (.there .here))) | exact .there (.there (.there (.there (.there .here)))) | exact .there (.there (.there (.there (.there (.there .here)))))) (.cons (by first | exact .here | exact .there .here | exact .there (.there .here) | exact .there (.there (.there .here)) | exact .there (.there (.there (.there .here))) | exact .there (.there (.there (.there (.there .here)))) | exact .there (.there (.there (.there (.there (.there .here)))))) .nil))) ⟨l.length - (i + 1), by omega, i + 1, g', cap', s', junk', rfl, hG', by omega, by omega, rfl, rfl⟩⟩
  · exact fin_right (K := [_, _]) (fin_all ⟨ret_bool rfl, rfl⟩)
end Go.Proofs.Ytlmhagngbfcdkaa.Slots
