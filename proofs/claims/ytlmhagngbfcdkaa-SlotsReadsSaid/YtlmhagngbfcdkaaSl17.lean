/- slots.Read and the document's. -/
import Derived.Test.YtlmhagngbfcdkaaSl16
namespace Go.Proofs.Ytlmhagngbfcdkaa.Slots
open Go Ev Be
set_option linter.unusedVariables false
set_option linter.unusedSimpArgs false
set_option maxRecDepth 100000
def mixS (c : By) (i : Nat) : Nat → Sl10 := fun j => if j < i then slB c j else freeS
theorem mix_next (c : By) (i : Nat) : upd (mixS c i) i (slB c i) = mixS c (i + 1) := by
  funext j
  unfold upd mixS
  by_cases h : j = i
  · rw [if_pos h, if_pos (by omega), h]
  · rw [if_neg h]
    by_cases h2 : j < i
    · rw [if_pos h2, if_pos (by omega)]
    · rw [if_neg h2, if_neg (by omega)]
theorem mix_0 (c : By) : mixS c 0 = fun _ => freeS := by funext j; unfold mixS; rw [if_neg (by omega)]
theorem mix_8 (c : By) (N : Int) : tc N (mixS c 8) = tc N (slB c) := tc_congr fun j hj => by unfold mixS; rw [if_pos hj]
theorem st_mix {P : Program} {M : List Blk} {r i : Nat} {N : Int} {c : By} {T : TypeId} {f : Blk → List Blk} {K : List Blk → Prop} [z : Zip M r (.row (tc N (mixS c i)) T) f] (hi : i < 8) (hk : K (f ⟨r, .row (tc N (mixS c (i + 1))) T⟩)) : StN P M r (1 + i * 10) (sc (slB c i)) K :=
  st_slot (slB c i) hi (by rw [mix_next]; exact hk)
def RdQ (c : By) (q : Nat) : Ending → List Blk → Prop := fun e A => (RA c q ∧ ∃ r, e = .returned (.tuple #[pt r, .int .i64 0]) ∧ A = [tB r q (slB c)]) ∨ (¬ RA c q ∧ e = .returned (.tuple #[.pointer none, .int .i64 6]) ∧ A = [])
theorem right_ok {c : By} {q : Nat} (h : Right q (slB c)) : ∀ j, j < 8 → okS (slB c j) := by
  intro j hj
  have hG := right_good h
  have hs := (hG.2.1 j hj)
  obtain ⟨e1, e2, e3, e4⟩ := sc_parts (cut_same (right_rest h) j hj)
  unfold okS at hs ⊢
  omega
attribute [local irreducible] rl tc bu biX rowI rowE rowS padE padS by1 pw full sBy cnt bt seenB seenL slB mixS S48 convert Builtin.copy_ Builtin.append_ Instr.makeSlice
theorem read_out (n : Int) (s : ByteArray) (h : n < 1 ∨ 8 < n) : Fnc Try.prog 23 [.int .i64 n, .string s] [] (Ret (.tuple #[.pointer none, .int .i64 2]) []) := by
  refine fn_intro Try.func23 (by kernel_rfl) ?_
  repeat' ((conv => whnf); first
      | refine call_val (new_out n h) ?_
      | refine ld1_lit ?_
      | refine ldN_lit ?_
      | refine nw (fun n => ?_)
      | refine st_lit rfl ?_
      | refine need (by first | rfl | omega) ?_
      | (refine wr (fun z hz => ?_); (try rw [Int.tdiv_eq_ediv_of_nonneg (by omega)] at hz); rw [w64 (by omega) (by omega)] at hz; subst hz)
      | (refine zv (fun z hz => ?_); (try rw [Int.tmod_eq_emod_of_nonneg (by omega)] at hz); subst hz)
      | (refine ifs (fun h => ?_) (fun h => ?_) <;> (try (exfalso; first | omega | with_reducible contradiction | with_reducible exact h rfl)))
      | refine fin_nil ⟨?_, rfl⟩)
  all_goals rfl
theorem read_form (q : Nat) (hq1 : 1 ≤ q) (hq8 : q ≤ 8) (s : ByteArray) (h : ¬ s.size = 48) : Fnc Try.prog 23 [.int .i64 q, .string s] [] (Ret (.tuple #[.pointer none, .int .i64 6]) []) := by
  refine fn_intro Try.func23 (by kernel_rfl) ?_
  repeat' ((conv => whnf); first
      | (refine call_fn (new_in q hq1 hq8) .nil (fun e A' hq => ?_); obtain ⟨r, h1, h2⟩ := hq; subst h1; subst h2)
      | refine ld1_lit ?_
      | refine ldN_lit ?_
      | refine nw (fun n => ?_)
      | refine st_lit rfl ?_
      | refine need (by first | rfl | omega) ?_
      | (refine wr (fun z hz => ?_); (try rw [Int.tdiv_eq_ediv_of_nonneg (by omega)] at hz); rw [w64 (by omega) (by omega)] at hz; subst hz)
      | (refine zv (fun z hz => ?_); (try rw [Int.tmod_eq_emod_of_nonneg (by omega)] at hz); subst hz)
      | (refine ifs (fun h => ?_) (fun h => ?_) <;> (try (exfalso; first | omega | with_reducible contradiction | with_reducible exact h rfl)))
      | refine fin_nil ⟨?_, rfl⟩)
  all_goals rfl
theorem fin_rdF {M : List Blk} {c : By} {q : Nat} (h : ¬ RA c q) : Ev.Fin M (RdQ c q (.returned (oneOrMany [.pointer none, .int .i64 6]))) := fin_nil (.inr ⟨h, rfl, rfl⟩)
theorem slot_at (c : By) (i : Nat) : Fnc Try.prog 37 [.string (S4 c i)] [] (Ret (.agg (sc (slB c i)).toArray) []) := by
  have := slot_of (c (4 * i)) (c (4 * i + 1)) (c (4 * i + 2)) (c (4 * i + 3))
  unfold S4 slB
  exact this
set_option maxHeartbeats 4000000 in
theorem read_ (c : By) (q : Nat) (hq1 : 1 ≤ q) (hq8 : q ≤ 8) : Fnc Try.prog 23 [.int .i64 q, .string (S48 c)] [] (RdQ c q) := by
  have hsz := S48_size c
  refine fn_intro Try.func23 (by kernel_rfl) ?_
  repeat' ((conv => whnf); first
      | (refine call_fn (new_in q hq1 hq8) .nil (fun e A' hq => ?_); obtain ⟨r, h1, h2⟩ := hq; subst h1; rw [tB_free, ← mix_0 c] at h2; subst h2)
      | refine loop_rule [23] (fun vs M m => ∃ i : Nat, vs = [.int .i64 i] ∧ i ≤ 8 ∧ m = 8 - i ∧ M = [tB r q (mixS c i)]) rfl ?_ ?_
      | refine ld1_lit ?_
      | refine ldN_lit ?_
      | refine nw (fun n => ?_)
      | refine st_lit rfl ?_
      | refine need (by first | rfl | omega) ?_
      | (refine wr (fun z hz => ?_); (try rw [Int.tdiv_eq_ediv_of_nonneg (by omega)] at hz); rw [w64 (by omega) (by omega)] at hz; subst hz)
      | (refine zv (fun z hz => ?_); (try rw [Int.tmod_eq_emod_of_nonneg (by omega)] at hz); subst hz)
      | (refine ifs (fun h => ?_) (fun h => ?_) <;> (try (exfalso; first | omega | with_reducible contradiction | with_reducible exact h rfl))))
  · exact fin_all ⟨_, 0, rfl, by omega, rfl, rfl⟩
  rintro vs junk M' m ⟨i, rfl, hi, rfl, rfl⟩
  by_cases hi8 : i < 8
  · have hext := S48_ext c (i := i) (by omega)
    repeat' ((conv => whnf); first
        | refine draw_any 10 [(0, true), (1, true), (2, true), (3, true), (4, true), (5, true), (6, true), (7, true), (8, true), (9, true), (11, true), (12, true), (10, false), (13, true), (14, false)] [] rfl (by kernel_rfl) ?_
        | refine kept_nil ?_
        | (refine sv (fun z hz => ?_); rw [show (4 * (i : Int)).toNat = 4 * i by omega, show (4 * ((i : Int) + 1)).toNat = 4 * (i + 1) by omega, hext] at hz; subst hz)
        | refine call_val (slot_at c i) ?_
        | (refine nv (fun z hz => ?_); (try simp at hz); replace hz := hz.symm; subst hz)
        | refine st_mix (by omega) ?_
        | refine ld1_lit ?_
        | refine ldN_lit ?_
        | refine nw (fun n => ?_)
        | refine st_lit rfl ?_
        | refine need (by first | rfl | omega) ?_
        | (refine wr (fun z hz => ?_); (try rw [Int.tdiv_eq_ediv_of_nonneg (by omega)] at hz); rw [w64 (by omega) (by omega)] at hz; subst hz)
        | (refine zv (fun z hz => ?_); (try rw [Int.tmod_eq_emod_of_nonneg (by omega)] at hz); subst hz)
        | (refine ifs (fun h => ?_) (fun h => ?_) <;> (try (exfalso; first | omega | with_reducible contradiction | with_reducible exact h rfl))))
    all_goals (conv => whnf)
    exact ⟨rfl, fin_all ⟨8 - (i + 1), by omega, i + 1, rfl, by omega, rfl, rfl⟩⟩
  · obtain rfl : i = 8 := by omega
    rw [show tB r q (mixS c 8) = tB r q (slB c) by unfold tB; rw [mix_8]]
    repeat' ((conv => whnf); first
        | (refine call_fn (right r q (slB c)) (.cons (by first | exact .here | exact .there .here | exact .there (.there .here) | exact .there (.there (.there .here)) | exact .there (.there (.there (.there .here))) | exact .there (.there (.there (.there (.there .here)))) | exact .there (.there (.there (.there (.there (.there .here)))))) .nil) (fun e A' hq => ?_); obtain ⟨rfl, b, rfl, hb⟩ := hq; rcases b with _ | _)
        | refine call_ret (bytes r q (slB c) (right_ok (hb.1 rfl))) (.cons (by first | exact .here | exact .there .here | exact .there (.there .here) | exact .there (.there (.there .here)) | exact .there (.there (.there (.there .here))) | exact .there (.there (.there (.there (.there .here)))) | exact .there (.there (.there (.there (.there (.there .here)))))) .nil) ?_
        | refine ld1_lit ?_
        | refine ldN_lit ?_
        | refine nw (fun n => ?_)
        | refine st_lit rfl ?_
        | refine need (by first | rfl | omega) ?_
        | (refine wr (fun z hz => ?_); (try rw [Int.tdiv_eq_ediv_of_nonneg (by omega)] at hz); rw [w64 (by omega) (by omega)] at hz; subst hz)
        | (refine zv (fun z hz => ?_); (try rw [Int.tmod_eq_emod_of_nonneg (by omega)] at hz); subst hz)
        | (refine ifs (fun h => ?_) (fun h => ?_) <;> (try (exfalso; first | omega | with_reducible contradiction | with_reducible exact h rfl))))
    all_goals (conv => whnf)
    · exact fin_rdF fun h => by have := hb.2 h.1; cases this
    · exact fin_pick (.cons (by first | exact .here | exact .there .here | exact .there (.there .here) | exact .there (.there (.there .here)) | exact .there (.there (.there (.there .here))) | exact .there (.there (.there (.there (.there .here)))) | exact .there (.there (.there (.there (.there (.there .here)))))) .nil) (.inl ⟨⟨hb.1 rfl, by assumption⟩, r, rfl, rfl⟩)
    · exact fin_rdF fun h => absurd h.2 (by assumption)
end Go.Proofs.Ytlmhagngbfcdkaa.Slots
