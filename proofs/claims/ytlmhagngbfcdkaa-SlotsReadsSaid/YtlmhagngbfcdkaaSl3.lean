/- Tables of slots: new ones; how many are dirty, and used; bits. -/
import Derived.Test.YtlmhagngbfcdkaaSl2
namespace Go.Proofs.Ytlmhagngbfcdkaa.Slots
open Go Ev Be
set_option linter.unusedVariables false
set_option linter.unusedSimpArgs false
set_option maxRecDepth 100000
/-- A block's cells, spelled out or as a row: the same. -/
theorem St_swap {A L R : List Blk} {w0 w : World} {n : Nat} {o o' : BO} (h : St A w0 w (L ++ ⟨n, o⟩ :: R)) (hr : (⟨n, o⟩ : Blk).ro = (⟨n, o'⟩ : Blk).ro) (hh : (⟨n, o⟩ : Blk).holds w → (⟨n, o'⟩ : Blk).holds w) : St A w0 w (L ++ ⟨n, o'⟩ :: R) := by
  refine ⟨h.os, h.tape, h.output, h.size, h.keep, fun b hb => ?_, fun b hb => ?_, ?_⟩
  · rcases List.mem_append.1 hb with hb | hb
    · exact h.has b (List.mem_append.2 (.inl hb))
    · rcases List.mem_cons.1 hb with rfl | hb
      · exact hh (h.has _ (List.mem_append.2 (.inr List.mem_cons_self)))
      · exact h.has b (List.mem_append.2 (.inr (List.mem_cons_of_mem _ hb)))
  · rcases List.mem_append.1 hb with hb | hb
    · exact h.own b (List.mem_append.2 (.inl hb))
    · rcases List.mem_cons.1 hb with rfl | hb
      · have := h.own ⟨n, o⟩ (List.mem_append.2 (.inr List.mem_cons_self))
        rw [hr] at this; exact this
      · exact h.own b (List.mem_append.2 (.inr (List.mem_cons_of_mem _ hb)))
  · have hp := List.pairwise_append.1 h.apart
    have hc := List.pairwise_cons.1 hp.2.1
    refine List.pairwise_append.2 ⟨hp.1, List.pairwise_cons.2 ⟨fun b hb e => ?_, hc.2⟩, fun a ha b hb => ?_⟩
    · have := hc.1 b hb e; rw [hr] at this; exact this
    · rcases List.mem_cons.1 hb with rfl | hb
      · intro e; have := hp.2.2 a ha ⟨n, o⟩ List.mem_cons_self e; rw [hr] at this; exact this
      · exact hp.2.2 a ha b (List.mem_cons_of_mem _ hb)
theorem to_row (n : Nat) {P : Program} {c : Code} {fr : List Value} {M : List Blk} {K : Ks} {cs cs' : List Value} {t : TypeId} {f : Blk → List Blk} [z : Zip M n (.cells cs t) f] (he : cs = cs') (h : CodeW P c fr (f ⟨n, .row cs' t⟩) K) : CodeW P c fr M K := by
  subst he
  obtain ⟨L, R, e1, e2⟩ := z.out
  rw [e2] at h
  subst e1
  exact ⟨fun A w0 w ds st => h.out A w0 w ds (St_swap st rfl (fun hh => hh))⟩
theorem to_cells (n : Nat) {P : Program} {c : Code} {fr : List Value} {M : List Blk} {K : Ks} {cs cs' : List Value} {t : TypeId} {f : Blk → List Blk} [z : Zip M n (.row cs t) f] (he : cs = cs') (h : CodeW P c fr (f ⟨n, .cells cs' t⟩) K) : CodeW P c fr M K := by
  subst he
  obtain ⟨L, R, e1, e2⟩ := z.out
  rw [e2] at h
  subst e1
  exact ⟨fun A w0 w ds st => h.out A w0 w ds (St_swap st rfl (fun hh => hh))⟩
def cnt (p : Nat → Bool) : Nat → Nat
  | 0 => 0
  | k + 1 => cnt p k + (if p k then 1 else 0)
theorem cnt_le (p : Nat → Bool) : ∀ k, cnt p k ≤ k
  | 0 => Nat.le_refl _
  | k + 1 => by have := cnt_le p k; unfold cnt; split <;> omega
theorem cnt_t {p : Nat → Bool} {k : Nat} (h : p k = true) : cnt p (k + 1) = cnt p k + 1 := by rw [cnt, if_pos h]
theorem cnt_f {p : Nat → Bool} {k : Nat} (h : ¬ p k = true) : cnt p (k + 1) = cnt p k := by rw [cnt, if_neg h, Nat.add_zero]
def usedB (x : Sl10) : Bool := decide (0 ≤ x.g)
abbrev zT (n : Int) : List Value := [.int .i64 n, .int .i64 0, .bool false, .bool false, .bool false, .bool false, .bool false, .bool false, .bool false, .bool false, .int .i64 0, .int .i64 0, .bool false, .bool false, .bool false, .bool false, .bool false, .bool false, .bool false, .bool false, .int .i64 0, .int .i64 0, .bool false, .bool false, .bool false, .bool false, .bool false, .bool false, .bool false, .bool false, .int .i64 0, .int .i64 0, .bool false, .bool false, .bool false, .bool false, .bool false, .bool false, .bool false, .bool false, .int .i64 0, .int .i64 0, .bool false, .bool false, .bool false, .bool false, .bool false, .bool false, .bool false, .bool false, .int .i64 0, .int .i64 0, .bool false, .bool false, .bool false, .bool false, .bool false, .bool false, .bool false, .bool false, .int .i64 0, .int .i64 0, .bool false, .bool false, .bool false, .bool false, .bool false, .bool false, .bool false, .bool false, .int .i64 0, .int .i64 0, .bool false, .bool false, .bool false, .bool false, .bool false, .bool false, .bool false, .bool false, .int .i64 0]
theorem tc_zero (n : Int) : zT n = tc n (fun j => if j < 0 then freeS else zeroS) := rfl
theorem tc_next {i : Nat} : upd (fun j => if j < i then freeS else zeroS) i freeS = (fun j => if j < i + 1 then freeS else zeroS) := by
  funext j
  unfold upd
  by_cases h : j = i
  · rw [if_pos h, if_pos (by omega)]
  · rw [if_neg h]
    show (if j < i then freeS else zeroS) = _
    by_cases h2 : j < i
    · rw [if_pos h2, if_pos (by omega)]
    · rw [if_neg h2, if_neg (by omega)]
/-- Places' bits, of the first i. -/
def bu (v0 v1 v2 v3 d0 d1 d2 d3 : Bool) (i : Nat) : Int :=
  (if 0 < i ∧ v0 then 16 else 0) + (if 0 < i ∧ d0 then 1 else 0) + (if 1 < i ∧ v1 then 32 else 0) + (if 1 < i ∧ d1 then 2 else 0) + (if 2 < i ∧ v2 then 64 else 0) + (if 2 < i ∧ d2 then 4 else 0) + (if 3 < i ∧ v3 then 128 else 0) + (if 3 < i ∧ d3 then 8 else 0)
def biX (x : Sl10) (i : Nat) : Int := bu (x.v 0) (x.v 1) (x.v 2) (x.v 3) (x.d 0) (x.d 1) (x.d 2) (x.d 3) i
attribute [local irreducible] rl tc convert Builtin.copy_ Builtin.append_ Instr.makeSlice
theorem new_out (n : Int) (h : n < 1 ∨ 8 < n) : Fnc Try.prog 8 [.int .i64 n] [] (Ret (.tuple #[.pointer none, .int .i64 2]) []) := by
  refine fn_intro Try.func8 (by kernel_rfl) ?_
  repeat' ((conv => whnf); first
      | refine ld1_lit ?_
      | refine ldN_lit ?_
      | refine nw (fun n => ?_)
      | refine st_lit rfl ?_
      | refine need (by first | rfl | omega) ?_
      | (refine wr (fun z hz => ?_); (try rw [Int.tdiv_eq_ediv_of_nonneg (by omega)] at hz); rw [w64 (by omega) (by omega)] at hz; subst hz)
      | (refine zv (fun z hz => ?_); (try rw [Int.tmod_eq_emod_of_nonneg (by omega)] at hz); subst hz)
      | (refine ifs (fun h => ?_) (fun h => ?_) <;> (try (exfalso; first | omega | with_reducible contradiction | with_reducible exact h rfl)))
      | refine fin_nil ⟨?_, rfl⟩)
  all_goals rfl
theorem new_in (N : Nat) (h : 1 ≤ N) (h8 : N ≤ 8) : Fnc Try.prog 8 [.int .i64 N] [] (fun e A => ∃ r, e = .returned (.tuple #[pt r, .int .i64 0]) ∧ A = [tB r N (fun j => if j < 8 then freeS else zeroS)]) := by
  refine fn_intro Try.func8 (by kernel_rfl) ?_
  repeat' ((conv => whnf); first
      | refine ld1_lit ?_
      | refine ldN_lit ?_
      | refine nw (fun n => ?_)
      | refine st_lit rfl ?_
      | refine need (by first | rfl | omega) ?_
      | (refine wr (fun z hz => ?_); (try rw [Int.tdiv_eq_ediv_of_nonneg (by omega)] at hz); rw [w64 (by omega) (by omega)] at hz; subst hz)
      | (refine zv (fun z hz => ?_); (try rw [Int.tmod_eq_emod_of_nonneg (by omega)] at hz); subst hz)
      | (refine ifs (fun h => ?_) (fun h => ?_) <;> (try (exfalso; first | omega | with_reducible contradiction | with_reducible exact h rfl))))
  refine to_row n (tc_zero N) ?_
  refine loop_rule [15] (fun vs M m => ∃ i : Nat, vs = [.int .i64 i] ∧ i ≤ 8 ∧ m = 8 - i ∧ M = [tB n N (fun j => if j < i then freeS else zeroS)]) rfl ?_ ?_
  · exact fin_all ⟨_, 0, rfl, by omega, rfl, rfl⟩
  rintro vs junk M' m ⟨i, rfl, hi, rfl, rfl⟩
  repeat' ((conv => whnf); first
      | refine draw_any 7 [(0, true), (1, true), (3, true), (4, true), (2, false), (5, true), (6, false)] [] rfl (by kernel_rfl) ?_
      | refine kept_nil ?_
      | refine call_val free ?_
      | (refine nv (fun z hz => ?_); (try simp at hz); replace hz := hz.symm; subst hz)
      | refine st_slot (i := i) freeS (by omega) ?_
      | refine ld1_lit ?_
      | refine ldN_lit ?_
      | refine nw (fun n => ?_)
      | refine st_lit rfl ?_
      | refine need (by first | rfl | omega) ?_
      | (refine wr (fun z hz => ?_); (try rw [Int.tdiv_eq_ediv_of_nonneg (by omega)] at hz); rw [w64 (by omega) (by omega)] at hz; subst hz)
      | (refine zv (fun z hz => ?_); (try rw [Int.tmod_eq_emod_of_nonneg (by omega)] at hz); subst hz)
      | (refine ifs (fun h => ?_) (fun h => ?_) <;> (try (exfalso; first | omega | with_reducible contradiction | with_reducible exact h rfl))))
  all_goals (conv => whnf)
  · refine ⟨rfl, fin_all ⟨8 - (i + 1), by omega, i + 1, rfl, by omega, rfl, ?_⟩⟩
    rw [tc_next]
  · obtain rfl : i = 8 := by omega
    exact fin_all ⟨_, rfl, rfl⟩
theorem len_ (r N : Nat) (s : Nat → Sl10) : Fnc Try.prog 21 [pt r] [tB r N s] (Ret (.int .i64 (cnt (fun j => usedB (s j)) 8)) [tB r N s]) := by
  refine fn_intro Try.func21 (by kernel_rfl) ?_
  repeat' ((conv => whnf); first
      | refine ldN_row (rl 8 s) (by rw [rl_len]; exact tc_all N s) (rl_len 8 s) ?_
      | refine loop_rule [13, 3] (fun vs M m => ∃ i : Nat, vs = [.int .i64 i, .int .i64 (cnt (fun j => usedB (s j)) i)] ∧ i ≤ 8 ∧ m = 8 - i ∧ M = [tB r N s]) rfl ?_ ?_
      | refine ld1_lit ?_
      | refine ldN_lit ?_
      | refine nw (fun n => ?_)
      | refine st_lit rfl ?_
      | refine need (by first | rfl | omega) ?_
      | (refine wr (fun z hz => ?_); (try rw [Int.tdiv_eq_ediv_of_nonneg (by omega)] at hz); rw [w64 (by omega) (by omega)] at hz; subst hz)
      | (refine zv (fun z hz => ?_); (try rw [Int.tmod_eq_emod_of_nonneg (by omega)] at hz); subst hz)
      | (refine ifs (fun h => ?_) (fun h => ?_) <;> (try (exfalso; first | omega | with_reducible contradiction | with_reducible exact h rfl))))
  · exact fin_all ⟨_, 0, rfl, by omega, rfl, rfl⟩
  rintro vs junk M' m ⟨i, rfl, hi, rfl, rfl⟩
  have hc := cnt_le (fun j => usedB (s j)) i
  repeat' ((conv => whnf); first
      | (refine nv (fun z hz => ?_); (try simp at hz); replace hz := hz.symm; subst hz)
      | refine part_of' (l := rl 8 s) (q := i * 10) (m := 10) (r := sc (s i)) (rl_part (by omega)) rfl (by omega) ?_
      | refine ld1_lit ?_
      | refine ldN_lit ?_
      | refine nw (fun n => ?_)
      | refine st_lit rfl ?_
      | refine need (by first | rfl | omega) ?_
      | (refine wr (fun z hz => ?_); (try rw [Int.tdiv_eq_ediv_of_nonneg (by omega)] at hz); rw [w64 (by omega) (by omega)] at hz; subst hz)
      | (refine zv (fun z hz => ?_); (try rw [Int.tmod_eq_emod_of_nonneg (by omega)] at hz); subst hz)
      | (refine ifs (fun h => ?_) (fun h => ?_) <;> (try (exfalso; first | omega | with_reducible contradiction | with_reducible exact h rfl))))
  all_goals (conv => whnf)
  · refine ⟨rfl, fin_look r ⟨8 - (i + 1), by omega, i + 1, ?_, by omega, rfl, rfl⟩⟩
    rw [cnt_t (p := fun j => usedB (s j)) (k := i) (by unfold usedB; exact decide_eq_true (by assumption))]; rfl
  · refine ⟨rfl, fin_look r ⟨8 - (i + 1), by omega, i + 1, ?_, by omega, rfl, rfl⟩⟩
    rw [cnt_f (p := fun j => usedB (s j)) (k := i) (by unfold usedB; simp; omega)]; rfl
  · obtain rfl : i = 8 := by omega
    exact fin_look r ⟨rfl, rfl⟩
theorem dirty (r N : Nat) (s : Nat → Sl10) : Fnc Try.prog 20 [pt r] [tB r N s] (Ret (.int .i64 (cnt (fun j => busyB (s j)) 8)) [tB r N s]) := by
  refine fn_intro Try.func20 (by kernel_rfl) ?_
  repeat' ((conv => whnf); first
      | refine ldN_row (rl 8 s) (by rw [rl_len]; exact tc_all N s) (rl_len 8 s) ?_
      | refine loop_rule [13, 3] (fun vs M m => ∃ i : Nat, vs = [.int .i64 i, .int .i64 (cnt (fun j => busyB (s j)) i)] ∧ i ≤ 8 ∧ m = 8 - i ∧ M = [tB r N s]) rfl ?_ ?_
      | refine ld1_lit ?_
      | refine ldN_lit ?_
      | refine nw (fun n => ?_)
      | refine st_lit rfl ?_
      | refine need (by first | rfl | omega) ?_
      | (refine wr (fun z hz => ?_); (try rw [Int.tdiv_eq_ediv_of_nonneg (by omega)] at hz); rw [w64 (by omega) (by omega)] at hz; subst hz)
      | (refine zv (fun z hz => ?_); (try rw [Int.tmod_eq_emod_of_nonneg (by omega)] at hz); subst hz)
      | (refine ifs (fun h => ?_) (fun h => ?_) <;> (try (exfalso; first | omega | with_reducible contradiction | with_reducible exact h rfl))))
  · exact fin_all ⟨_, 0, rfl, by omega, rfl, rfl⟩
  rintro vs junk M' m ⟨i, rfl, hi, rfl, rfl⟩
  have hc := cnt_le (fun j => busyB (s j)) i
  repeat' ((conv => whnf); first
      | (refine nv (fun z hz => ?_); (try simp at hz); replace hz := hz.symm; subst hz)
      | refine part_of' (l := rl 8 s) (q := i * 10) (m := 10) (r := sc (s i)) (rl_part (by omega)) rfl (by omega) ?_
      | (refine agg_neq k4 (by decide) rfl rfl rfl rfl (by kernel_rfl) (f4 _ _ _ _) (f4 _ _ _ _) ?_; refine ifs (fun hb => ?_) (fun hb => ?_) <;> rw [busy_iff] at hb)
      | refine ld1_lit ?_
      | refine ldN_lit ?_
      | refine nw (fun n => ?_)
      | refine st_lit rfl ?_
      | refine need (by first | rfl | omega) ?_
      | (refine wr (fun z hz => ?_); (try rw [Int.tdiv_eq_ediv_of_nonneg (by omega)] at hz); rw [w64 (by omega) (by omega)] at hz; subst hz)
      | (refine zv (fun z hz => ?_); (try rw [Int.tmod_eq_emod_of_nonneg (by omega)] at hz); subst hz)
      | (refine ifs (fun h => ?_) (fun h => ?_) <;> (try (exfalso; first | omega | with_reducible contradiction | with_reducible exact h rfl))))
  all_goals (conv => whnf)
  · refine ⟨rfl, fin_look r ⟨8 - (i + 1), by omega, i + 1, ?_, by omega, rfl, rfl⟩⟩
    rw [cnt_f (p := fun j => busyB (s j)) (k := i) (by simp [hb])]; rfl
  · refine ⟨rfl, fin_look r ⟨8 - (i + 1), by omega, i + 1, ?_, by omega, rfl, rfl⟩⟩
    rw [cnt_t (p := fun j => busyB (s j)) (k := i) (by simpa using hb)]; rfl
  · obtain rfl : i = 8 := by omega
    exact fin_look r ⟨rfl, rfl⟩
end Go.Proofs.Ytlmhagngbfcdkaa.Slots
