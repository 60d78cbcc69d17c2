/- A call of a table and of another list: whatever comes of it. -/
import Derived.Test.YtlmhagngbfcdkaaSl10
namespace Go.Proofs.Ytlmhagngbfcdkaa.Slots
open Go Ev Be
set_option linter.unusedVariables false
set_option linter.unusedSimpArgs false
set_option maxRecDepth 100000
/-- A block taken out of M by its number. -/
class TakeC (M : List Blk) (n : Nat) (o : outParam BO) (R : outParam (List Blk)) : Prop where
  out : Take M ⟨n, o⟩ R
instance (priority := high) TakeC.here {M : List Blk} {n : Nat} {o : BO} : TakeC (⟨n, o⟩ :: M) n o M := ⟨.here⟩
instance (priority := low) TakeC.there {M R : List Blk} {n : Nat} {o : BO} {c : Blk} [h : TakeC M n o R] : TakeC (c :: M) n o (c :: R) := ⟨.there h.out⟩
theorem takeC {M R : List Blk} {n : Nat} {o : BO} [h : TakeC M n o R] : Take M ⟨n, o⟩ R := h.out
section
variable {P : Program} {M : List Blk}
/-- A store at a place that is no literal, into cells that are written out. -/
theorem st_sym {n off : Nat} {cs : List Value} {v : Value} {t : TypeId} {f : Blk → List Blk} {k : List Blk → Prop} [z : Zip M n (.cells cs t) f] (h1 : v.oneCell' = true)
    (hl : off < cs.length) (hk : k (f ⟨n, .row (cs.set off v) t⟩)) : StN P M n off [v] k := by
  refine ⟨fun A w0 w st => ?_⟩
  have hu := z.upd (.row (cs.set off v) t)
  obtain ⟨L, R, e1, e2⟩ := hu.split
  have hb : (⟨n, .cells cs t⟩ : Blk).holds w := st.has _ (by rw [e1]; simp)
  have hr := run_storeCells_at P n off t [v] 0 cs.toArray w hb (by simp; omega) (fun u hv => by simp at hv; rw [hv]; exact h1)
  refine ⟨_, _, hr, ?_, hk⟩
  simp only [Nat.add_zero]
  have e : cs.toArray.toList.take off ++ [v] ++ cs.toArray.toList.drop (off + [v].length) = cs.set off v := by
    rw [List.set_eq_take_append_cons_drop, if_pos hl]; simp
  rw [e]
  exact setRow_st st hu (.inl rfl) (.inr rfl)
/-- All of a block is written. -/
theorem st_whole {n : Nat} {cs vs : List Value} {t : TypeId} {f : Blk → List Blk} {k : List Blk → Prop} [z : Zip M n (.cells cs t) f] (h1 : ∀ u ∈ vs, u.oneCell' = true)
    (hl : vs.length = cs.length) (hk : k (f ⟨n, .row vs t⟩)) : StN P M n 0 vs k := by
  refine ⟨fun A w0 w st => ?_⟩
  have hu := z.upd (.row vs t)
  obtain ⟨L, R, e1, e2⟩ := hu.split
  have hb : (⟨n, .cells cs t⟩ : Blk).holds w := st.has _ (by rw [e1]; simp)
  have hr := run_storeCells_at P n 0 t vs 0 cs.toArray w hb (by simp; omega) h1
  refine ⟨_, _, hr, ?_, hk⟩
  simp only [Nat.add_zero]
  have e : cs.toArray.toList.take 0 ++ vs ++ cs.toArray.toList.drop (0 + vs.length) = vs := by
    rw [List.take_zero, List.nil_append, List.drop_eq_nil_of_le (by simp; omega), List.append_nil]
  rw [e]
  exact setRow_st st hu (.inl rfl) (.inr rfl)
end
/-- It leaves a table. -/
def TaQ (r q : Nat) : Ending → List Blk → Prop := fun e A => ∃ (s' : Nat → Sl10) (i x : Int), e = .returned (.tuple #[.int .i64 i, .int .i64 x]) ∧ A = [tB r q s']
def TeQ (r q : Nat) : Ending → List Blk → Prop := fun e A => ∃ (s' : Nat → Sl10) (x : Int), e = .returned (.int .i64 x) ∧ A = [tB r q s']
theorem ta_of {P : Program} {f : FuncId} {args : List Value} {A : List Blk} {r q : Nat} {s' : Nat → Sl10} {i x : Int} (h : Fnc P f args A (Ret (.tuple #[.int .i64 i, .int .i64 x]) [tB r q s'])) : Fnc P f args A (TaQ r q) :=
  Fnc_drop h fun e A' ⟨h1, h2⟩ => fin_all ⟨s', i, x, h1, h2⟩
theorem te_of {P : Program} {f : FuncId} {args : List Value} {A : List Blk} {r q : Nat} {s' : Nat → Sl10} {x : Int} (h : Fnc P f args A (Ret (.int .i64 x) [tB r q s'])) : Fnc P f args A (TeQ r q) :=
  Fnc_drop h fun e A' ⟨h1, h2⟩ => fin_all ⟨s', x, h1, h2⟩
section
variable (r q : Nat) (s : Nat → Sl10) (hq : q ≤ 8)
include hq
theorem takeA (g : Int) : Fnc Try.prog 14 [pt r, .int .i64 g] [tB r q s] (TaQ r q) := by
  by_cases hr : g < 0 ∨ 15 < g
  · exact ta_of (take_range r q s g hr)
  obtain ⟨k, hk⟩ := isF_ex (fun j => (s j).g = g) 8
  by_cases hk8 : k < 8
  · exact ta_of (take_exist r q s g (by omega) (by omega) k hk hk8)
  obtain rfl : k = 8 := by have := hk.1; omega
  obtain ⟨m, hm⟩ := isF_ex (fun j => (s j).g < 0) q
  by_cases hmq : m < q
  · exact ta_of (take_ok r q s hq g (by omega) (by omega) hk m hm hmq)
  obtain rfl : m = q := by have := hm.1; omega
  exact ta_of (take_full r m s hq g (by omega) (by omega) hk hm)
theorem freeA (i : Int) : Fnc Try.prog 16 [pt r, .int .i64 i] [tB r q s] (TeQ r q) := by
  by_cases ho : i < 0 ∨ q ≤ i
  · exact te_of (free_out r q s i ho)
  obtain ⟨j, rfl⟩ := Int.eq_ofNat_of_zero_le (show 0 ≤ i by omega)
  by_cases hg : (s j).g < 0
  · exact te_of (free_none r q s hq j (by omega) hg)
  rcases hb : busyB (s j) with _ | _
  · exact te_of (free_ok r q s hq j (by omega) hg hb)
  · exact te_of (free_busy r q s hq j (by omega) hg hb)
theorem markA (i p : Int) (v d : Bool) : Fnc Try.prog 17 [pt r, .int .i64 i, .int .i64 p, .bool v, .bool d] [tB r q s] (TeQ r q) := by
  by_cases ho : i < 0 ∨ q ≤ i ∨ p < 0 ∨ 4 ≤ p
  · exact te_of (mark_out r q s i p v d ho)
  obtain ⟨j, rfl⟩ := Int.eq_ofNat_of_zero_le (show 0 ≤ i by omega)
  obtain ⟨k, rfl⟩ := Int.eq_ofNat_of_zero_le (show 0 ≤ p by omega)
  by_cases hg : (s j).g < 0
  · exact te_of (mark_none r q s hq j k v d (by omega) (by omega) hg)
  by_cases hvd : d = true → v = true
  · exact te_of (mark_ok r q s hq j k v d (by omega) (by omega) hg hvd)
  · obtain ⟨rfl, rfl⟩ : v = false ∧ d = true := by cases v <;> cases d <;> simp at hvd ⊢
    exact te_of (mark_arg r q s hq j k (by omega) (by omega) hg)
theorem raiseA (i l : Int) : Fnc Try.prog 18 [pt r, .int .i64 i, .int .i64 l] [tB r q s] (TeQ r q) := by
  by_cases ho : i < 0 ∨ q ≤ i ∨ l < 0 ∨ 4 ≤ l
  · exact te_of (raise_out r q s i l ho)
  obtain ⟨j, rfl⟩ := Int.eq_ofNat_of_zero_le (show 0 ≤ i by omega)
  by_cases hg : (s j).g < 0
  · exact te_of (raise_none r q s hq j l (by omega) (by omega) (by omega) hg)
  · exact te_of (raise_ok r q s hq j l (by omega) (by omega) (by omega) hg)
omit hq in
theorem findA (g : Int) : ∃ (x : Int) (b : Bool), Fnc Try.prog 15 [pt r, .int .i64 g] [tB r q s] (Ret (.tuple #[.int .i64 x, .bool b]) [tB r q s]) := by
  by_cases hn : g < 0
  · exact ⟨_, _, find_neg r q g s hn⟩
  · obtain ⟨k8, h8⟩ := isF_ex (fun j => (s j).g = g) 8
    have hfi := find r q g s k8 (by omega) h8
    by_cases hk8 : k8 < 8
    · rw [if_pos hk8] at hfi; exact ⟨_, _, hfi⟩
    · rw [if_neg hk8] at hfi; exact ⟨_, _, hfi⟩
end
/-- R22.Find and R22.Set, whatever comes. -/
theorem rfindA (g q cap : Nat) (s : Nat → Sl10) (junk : List Value) (grp : Int) (hq : q ≤ 8) : ∃ x : Int, Fnc Try.prog 31 [lv g q cap, .int .i64 grp] [lb g q s junk] (Ret (.int .i64 x) [lb g q s junk]) := by
  obtain ⟨k, hk⟩ := isF_ex (fun j => (s j).g = grp ∧ 0 ≤ grp) q
  exact ⟨_, rfind g q cap s junk grp hq k hk⟩
def ReQ (g q : Nat) (s : Nat → Sl10) (junk : List Value) : Ending → List Blk → Prop := fun e A => ∃ v, e = .returned v ∧ A = [lb g q s junk]
attribute [local irreducible] rl tc bu biX rowI rowE rowS padE padS by1 pw full convert Builtin.copy_ Builtin.append_ Instr.makeSlice
theorem ten {xs : List Value} (h : xs.length = 10) : ∃ x0 x1 x2 x3 x4 x5 x6 x7 x8 x9, xs = [x0, x1, x2, x3, x4, x5, x6, x7, x8, x9] := by
  match xs, h with
  | [x0, x1, x2, x3, x4, x5, x6, x7, x8, x9], _ => exact ⟨x0, x1, x2, x3, x4, x5, x6, x7, x8, x9, rfl⟩
theorem rsetA (g q cap i : Nat) (s : Nat → Sl10) (junk xs : List Value) (hx : xs.length = 10) (h1 : ∀ u ∈ xs, u.oneCell' = true) (hq : q ≤ 8) (hi : i < q) :
    Fnc Try.prog 30 [lv g q cap, .int .i64 i, .agg xs.toArray] [lb g q s junk] (ReQ g q s junk) := by
  have hl := rl_len q s
  obtain ⟨x0, x1, x2, x3, x4, x5, x6, x7, x8, x9, rfl⟩ := ten hx
  refine fn_intro Try.func30 (by kernel_rfl) ?_
  repeat' ((conv => whnf); first
      | refine mk_nil rfl rfl rfl (fun S hS => ?_)
      | refine app_wide (S := S) (n := 0) (m := q) (sz := 10) (e := 38) (xs := []) (news := rl q s) rfl rfl rfl rfl rfl hS (rl_len q s) (by omega) (rl_one q s) (by show (0 + q) * 24 ≤ _; omega) (by omega) src_ll (fun S' hS' => ?_)
      | (refine st_rowN h1 ?_ ?_; (rw [List.nil_append, List.length_append, hl, hx]; omega))
      | (rcases S' with _ | ⟨g', cap', junk'⟩; (exfalso; have := hS'.2; simp at this; omega))
      | (refine nv (fun z hz => ?_); (try simp at hz); replace hz := hz.symm; subst hz)
      | refine ld1_lit ?_
      | refine ldN_lit ?_
      | refine nw (fun n => ?_)
      | refine st_lit rfl ?_
      | refine need (by first | rfl | omega) ?_
      | (refine wr (fun z hz => ?_); (try rw [Int.tdiv_eq_ediv_of_nonneg (by omega)] at hz); rw [w64 (by omega) (by omega)] at hz; subst hz)
      | (refine zv (fun z hz => ?_); (try rw [Int.tmod_eq_emod_of_nonneg (by omega)] at hz); subst hz)
      | (refine ifs (fun h => ?_) (fun h => ?_) <;> (try (exfalso; first | omega | with_reducible contradiction | with_reducible exact h rfl))))
  all_goals (conv => whnf)
  exact fin_pick (A' := [lb g q s junk]) (.cons (by first | exact .here | exact .there .here | exact .there (.there .here) | exact .there (.there (.there .here)) | exact .there (.there (.there (.there .here))) | exact .there (.there (.there (.there (.there .here)))) | exact .there (.there (.there (.there (.there (.there .here)))))) .nil) ⟨_, rfl, rfl⟩
def DoA (r g q : Nat) (s2 : Nat → Sl10) (junk : List Value) : Ending → List Blk → Prop := fun e A => ∃ (s' : Nat → Sl10) (v : Value) (b : Bool), e = .returned (.tuple #[v, .bool b]) ∧ A = [tB r q s', lb g q s2 junk]
theorem fin_doA {M R : List Blk} {r g q : Nat} {s' s2 : Nat → Sl10} {junk : List Value} {v : Value} {b : Bool} (ht : Takes M [tB r q s', lb g q s2 junk] R) : Ev.Fin M (DoA r g q s2 junk (.returned (oneOrMany [v, .bool b]))) :=
  fin_pick ht ⟨s', v, b, rfl, rfl⟩
set_option maxHeartbeats 4000000 in
theorem take2 (r g q cap : Nat) (s s2 : Nat → Sl10) (junk : List Value) (grp : Int) (hq : q ≤ 8) :
    Fnc Try.prog 27 [pt r, lv g q cap, .int .i64 grp] [tB r q s, lb g q s2 junk] (DoA r g q s2 junk) := by
  obtain ⟨x, hf⟩ := rfindA g q cap s2 junk grp hq
  refine fn_intro Try.func27 (by kernel_rfl) ?_
  repeat' ((conv => whnf); first
      | (refine call_fn (takeA r q s hq grp) (.cons (by first | exact .here | exact .there .here | exact .there (.there .here) | exact .there (.there (.there .here)) | exact .there (.there (.there (.there .here))) | exact .there (.there (.there (.there (.there .here)))) | exact .there (.there (.there (.there (.there (.there .here)))))) .nil) (fun e A' hq' => ?_); obtain ⟨s', i, y, rfl, rfl⟩ := hq')
      | refine call_ret hf (.cons (by first | exact .here | exact .there .here | exact .there (.there .here) | exact .there (.there (.there .here)) | exact .there (.there (.there (.there .here))) | exact .there (.there (.there (.there (.there .here)))) | exact .there (.there (.there (.there (.there (.there .here)))))) .nil) ?_
      | refine loop_rule [10] (fun vs M m => ∃ i : Nat, vs = [.int .i64 i] ∧ i ≤ q ∧ m = q - i ∧ M = [lb g q s2 junk, tB r q s']) rfl ?_ ?_
      | exact fin_doA (.cons (by first | exact .here | exact .there .here | exact .there (.there .here) | exact .there (.there (.there .here)) | exact .there (.there (.there (.there .here))) | exact .there (.there (.there (.there (.there .here)))) | exact .there (.there (.there (.there (.there (.there .here)))))) (.cons (by first | exact .here | exact .there .here | exact .there (.there .here) | exact .there (.there (.there .here)) | exact .there (.there (.there (.there .here))) | exact .there (.there (.there (.there (.there .here)))) | exact .there (.there (.there (.there (.there (.there .here)))))) .nil))
      | refine ld1_lit ?_
      | refine ldN_lit ?_
      | refine nw (fun n => ?_)
      | refine st_lit rfl ?_
      | refine need (by first | rfl | omega) ?_
      | (refine wr (fun z hz => ?_); (try rw [Int.tdiv_eq_ediv_of_nonneg (by omega)] at hz); rw [w64 (by omega) (by omega)] at hz; subst hz)
      | (refine zv (fun z hz => ?_); (try rw [Int.tmod_eq_emod_of_nonneg (by omega)] at hz); subst hz)
      | (refine ifs (fun h => ?_) (fun h => ?_) <;> (try (exfalso; first | omega | with_reducible contradiction | with_reducible exact h rfl))))
  · exact fin_all ⟨_, 0, rfl, by omega, rfl, rfl⟩
  rintro vs junk1 M' m ⟨k, rfl, hk, rfl, rfl⟩
  repeat' ((conv => whnf); first
      | (refine nv (fun z hz => ?_); (try simp at hz); replace hz := hz.symm; subst hz)
      | refine ld1_row (v := .int .i64 (s2 k).g) (ll_get' (i := k) (k := 0) (by omega) (by omega) (by omega) rfl) ?_
      | (refine call_fn (rsetA g q cap k s2 junk _ rfl (sc_one (takeS grp)) hq (by omega)) (.cons (by first | exact .here | exact .there .here | exact .there (.there .here) | exact .there (.there (.there .here)) | exact .there (.there (.there (.there .here))) | exact .there (.there (.there (.there (.there .here)))) | exact .there (.there (.there (.there (.there (.there .here)))))) .nil) (fun e A' hq' => ?_); obtain ⟨v, rfl, rfl⟩ := hq')
      | exact fin_doA (.cons (by first | exact .here | exact .there .here | exact .there (.there .here) | exact .there (.there (.there .here)) | exact .there (.there (.there (.there .here))) | exact .there (.there (.there (.there (.there .here)))) | exact .there (.there (.there (.there (.there (.there .here)))))) (.cons (by first | exact .here | exact .there .here | exact .there (.there .here) | exact .there (.there (.there .here)) | exact .there (.there (.there (.there .here))) | exact .there (.there (.there (.there (.there .here)))) | exact .there (.there (.there (.there (.there (.there .here)))))) .nil))
      | refine ld1_lit ?_
      | refine ldN_lit ?_
      | refine nw (fun n => ?_)
      | refine st_lit rfl ?_
      | refine need (by first | rfl | omega) ?_
      | (refine wr (fun z hz => ?_); (try rw [Int.tdiv_eq_ediv_of_nonneg (by omega)] at hz); rw [w64 (by omega) (by omega)] at hz; subst hz)
      | (refine zv (fun z hz => ?_); (try rw [Int.tmod_eq_emod_of_nonneg (by omega)] at hz); subst hz)
      | (refine ifs (fun h => ?_) (fun h => ?_) <;> (try (exfalso; first | omega | with_reducible contradiction | with_reducible exact h rfl))))
  all_goals (conv => whnf)
  all_goals exact ⟨rfl, fin_pick (A' := [lb g q s2 junk, tB r q s']) (.cons (by first | exact .here | exact .there .here | exact .there (.there .here) | exact .there (.there (.there .here)) | exact .there (.there (.there (.there .here))) | exact .there (.there (.there (.there (.there .here)))) | exact .there (.there (.there (.there (.there (.there .here)))))) (.cons (by first | exact .here | exact .there .here | exact .there (.there .here) | exact .there (.there (.there .here)) | exact .there (.there (.there (.there .here))) | exact .there (.there (.there (.there (.there .here)))) | exact .there (.there (.there (.there (.there (.there .here)))))) .nil)) ⟨q - (k + 1), by omega, k + 1, rfl, by omega, rfl, rfl⟩⟩
end Go.Proofs.Ytlmhagngbfcdkaa.Slots
