/- Tables of slots: the methods that change a table. -/
import Derived.Test.YtlmhagngbfcdkaaSl1
namespace Go.Proofs.Ytlmhagngbfcdkaa.Slots
open Go Ev Be
set_option linter.unusedVariables false
set_option linter.unusedSimpArgs false
set_option maxRecDepth 100000
def takeS (g : Int) : Sl10 := ⟨g, fun _ => false, fun _ => false, 0⟩
def busyB (x : Sl10) : Bool := x.d 0 || x.d 1 || x.d 2 || x.d 3
theorem busy_iff (x : Sl10) : [Value.bool (x.d 0), .bool (x.d 1), .bool (x.d 2), .bool (x.d 3)] = [.bool false, .bool false, .bool false, .bool false] ↔ busyB x = false := by
  unfold busyB
  cases x.d 0 <;> cases x.d 1 <;> cases x.d 2 <;> cases x.d 3 <;> simp
def setV (x : Sl10) (p : Nat) (b : Bool) : Sl10 := { x with v := fun j => if j = p then b else x.v j }
def setD (x : Sl10) (p : Nat) (b : Bool) : Sl10 := { x with d := fun j => if j = p then b else x.d j }
theorem sc_setV (x : Sl10) {p : Nat} (hp : p < 4) (b : Bool) : (sc x).set (1 + p) (.bool b) = sc (setV x p b) := by
  match p, hp with
  | 0, _ => rfl
  | 1, _ => rfl
  | 2, _ => rfl
  | 3, _ => rfl
theorem sc_setD (x : Sl10) {p : Nat} (hp : p < 4) (b : Bool) : (sc x).set (5 + p) (.bool b) = sc (setD x p b) := by
  match p, hp with
  | 0, _ => rfl
  | 1, _ => rfl
  | 2, _ => rfl
  | 3, _ => rfl
theorem sc_setL (x : Sl10) (l : Int) : (sc x).set 9 (.int .i64 l) = sc { x with lv := l } := rfl
theorem upd_at (s : Nat → Sl10) (i : Nat) (x : Sl10) : upd s i x i = x := if_pos rfl
theorem upd_upd (s : Nat → Sl10) (i : Nat) (x y : Sl10) : upd (upd s i x) i y = upd s i y := by
  funext j; unfold upd; split <;> rfl
theorem sc_one (x : Sl10) : ∀ u ∈ sc x, u.oneCell' = true := by
  intro u hu
  simp only [List.mem_cons, List.not_mem_nil, or_false] at hu
  rcases hu with rfl | rfl | rfl | rfl | rfl | rfl | rfl | rfl | rfl | rfl <;> rfl
section
variable {P : Program} {M : List Blk}
theorem st_slot {r i : Nat} {N : Int} {s : Nat → Sl10} (x : Sl10) {T : TypeId} {f : Blk → List Blk} {K : List Blk → Prop} [z : Zip M r (.row (tc N s) T) f] (hi : i < 8) (hk : K (f ⟨r, .row (tc N (upd s i x)) T⟩)) : StN P M r (1 + i * 10) (sc x) K :=
  st_rowN (sc_one x) (by rw [tc_len, sc_len]; omega) (by rw [sc_len, tc_set hi]; exact hk)
theorem st_slot1 {r i : Nat} {N : Int} {s : Nat → Sl10} (k : Nat) (x : Sl10) {u : Value} {T : TypeId} {f : Blk → List Blk} {K : List Blk → Prop} [z : Zip M r (.row (tc N s) T) f] (hi : i < 8) (hk10 : k < 10) (hx : (sc (s i)).set k u = sc x) (h1 : u.oneCell' = true) (hk : K (f ⟨r, .row (tc N (upd s i x)) T⟩)) : StN P M r (1 + i * 10 + k) [u] K :=
  st_row h1 (by rw [tc_len]; omega) (by rw [tc_set1 hi hk10 hx]; exact hk)
theorem st_slot1' {r i off : Nat} {N : Int} {s : Nat → Sl10} (k : Nat) (x : Sl10) {u : Value} {T : TypeId} {f : Blk → List Blk} {K : List Blk → Prop} [z : Zip M r (.row (tc N s) T) f] (ho : off = 1 + i * 10 + k) (hi : i < 8) (hk10 : k < 10) (hx : (sc (s i)).set k u = sc x) (h1 : u.oneCell' = true) (hk : K (f ⟨r, .row (tc N (upd s i x)) T⟩)) : StN P M r off [u] K := by
  subst ho; exact st_slot1 k x hi hk10 hx h1 hk
end
theorem tc_d {n : Int} {i : Nat} {s : Nat → Sl10} (hi : i < 8) : ((tc n s).drop (1 + i * 10 + 5)).take [Value.bool ((s i).d 0), .bool ((s i).d 1), .bool ((s i).d 2), .bool ((s i).d 3)].length = [.bool ((s i).d 0), .bool ((s i).d 1), .bool ((s i).d 2), .bool ((s i).d 3)] := by
  apply List.ext_getElem?
  intro k
  rw [List.getElem?_take]
  change (if k < 4 then _ else _) = _
  by_cases hk : k < 4
  · rw [if_pos hk, List.getElem?_drop, Nat.add_assoc, tc_get hi (by omega)]
    match k, hk with
    | 0, _ => rfl
    | 1, _ => rfl
    | 2, _ => rfl
    | 3, _ => rfl
  · rw [if_neg hk, List.getElem?_eq_none (by simp; omega)]
attribute [local irreducible] rl tc convert Builtin.copy_ Builtin.append_ Instr.makeSlice
section
variable (r N : Nat) (s : Nat → Sl10)
theorem take_range (g : Int) (h : g < 0 ∨ 15 < g) : Fnc Try.prog 14 [pt r, .int .i64 g] [tB r N s] (Ret (.tuple #[.int .i64 0, .int .i64 3]) [tB r N s]) := by
  refine fn_intro Try.func14 (by kernel_rfl) ?_
  repeat' ((conv => whnf); first
      | exact fin_all ⟨rfl, rfl⟩
      | refine ld1_lit ?_
      | refine ldN_lit ?_
      | refine nw (fun n => ?_)
      | refine st_lit rfl ?_
      | refine need (by first | rfl | omega) ?_
      | (refine wr (fun z hz => ?_); (try rw [Int.tdiv_eq_ediv_of_nonneg (by omega)] at hz); rw [w64 (by omega) (by omega)] at hz; subst hz)
      | (refine zv (fun z hz => ?_); (try rw [Int.tmod_eq_emod_of_nonneg (by omega)] at hz); subst hz)
      | (refine ifs (fun h => ?_) (fun h => ?_) <;> (try (exfalso; first | omega | with_reducible contradiction | with_reducible exact h rfl))))
theorem take_exist (g : Int) (h0 : 0 ≤ g) (h1 : g ≤ 15) (k : Nat) (hk : IsF (fun j => (s j).g = g) 8 k) (hk8 : k < 8) : Fnc Try.prog 14 [pt r, .int .i64 g] [tB r N s] (Ret (.tuple #[.int .i64 0, .int .i64 8]) [tB r N s]) := by
  have hf := find r N g s k h0 hk
  rw [if_pos hk8] at hf
  refine fn_intro Try.func14 (by kernel_rfl) ?_
  repeat' ((conv => whnf); first
      | refine call_same hf ?_
      | exact fin_all ⟨rfl, rfl⟩
      | refine ld1_lit ?_
      | refine ldN_lit ?_
      | refine nw (fun n => ?_)
      | refine st_lit rfl ?_
      | refine need (by first | rfl | omega) ?_
      | (refine wr (fun z hz => ?_); (try rw [Int.tdiv_eq_ediv_of_nonneg (by omega)] at hz); rw [w64 (by omega) (by omega)] at hz; subst hz)
      | (refine zv (fun z hz => ?_); (try rw [Int.tmod_eq_emod_of_nonneg (by omega)] at hz); subst hz)
      | (refine ifs (fun h => ?_) (fun h => ?_) <;> (try (exfalso; first | omega | with_reducible contradiction | with_reducible exact h rfl))))
theorem take_ok (h8 : N ≤ 8) (g : Int) (h0 : 0 ≤ g) (h1 : g ≤ 15) (hk : IsF (fun j => (s j).g = g) 8 8) (k : Nat) (hf : IsF (fun j => (s j).g < 0) N k) (hkN : k < N) :
    Fnc Try.prog 14 [pt r, .int .i64 g] [tB r N s] (Ret (.tuple #[.int .i64 k, .int .i64 0]) [tB r N (upd s k (takeS g))]) := by
  have hfi := find r N g s 8 h0 hk
  rw [if_neg (by omega)] at hfi
  refine fn_intro Try.func14 (by kernel_rfl) ?_
  repeat' ((conv => whnf); first
      | refine call_same hfi ?_
      | refine ld1_row (tc_0 _ _) ?_
      | refine loop_rule [30] (fun vs M m => ∃ i : Nat, vs = [.int .i64 i] ∧ i ≤ k ∧ m = 8 - i ∧ M = [tB r N s]) rfl ?_ ?_
      | refine ld1_lit ?_
      | refine ldN_lit ?_
      | refine nw (fun n => ?_)
      | refine st_lit rfl ?_
      | refine need (by first | rfl | omega) ?_
      | (refine wr (fun z hz => ?_); (try rw [Int.tdiv_eq_ediv_of_nonneg (by omega)] at hz); rw [w64 (by omega) (by omega)] at hz; subst hz)
      | (refine zv (fun z hz => ?_); (try rw [Int.tmod_eq_emod_of_nonneg (by omega)] at hz); subst hz)
      | (refine ifs (fun h => ?_) (fun h => ?_) <;> (try (exfalso; first | omega | with_reducible contradiction | with_reducible exact h rfl))))
  · exact fin_all ⟨_, 0, rfl, by omega, rfl, rfl⟩
  rintro vs junk M' m ⟨i, rfl, hi, rfl, rfl⟩
  repeat' ((conv => whnf); first
      | (refine nv (fun z hz => ?_); (try simp at hz); replace hz := hz.symm; subst hz)
      | refine ld1_row (v := .int .i64 (s i).g) (tc_get (k := 0) (by omega) (by omega)) ?_
      | refine st_slot (i := i) (takeS g) (by omega) ?_
      | refine ld1_lit ?_
      | refine ldN_lit ?_
      | refine nw (fun n => ?_)
      | refine st_lit rfl ?_
      | refine need (by first | rfl | omega) ?_
      | (refine wr (fun z hz => ?_); (try rw [Int.tdiv_eq_ediv_of_nonneg (by omega)] at hz); rw [w64 (by omega) (by omega)] at hz; subst hz)
      | (refine zv (fun z hz => ?_); (try rw [Int.tmod_eq_emod_of_nonneg (by omega)] at hz); subst hz)
      | (refine ifs (fun h => ?_) (fun h => ?_) <;> (try (exfalso; first | omega | with_reducible contradiction | with_reducible exact h rfl))))
  all_goals (conv => whnf)
  · obtain rfl : k = i := isF_eq hf hi (by omega) (by assumption)
    exact fin_all ⟨rfl, rfl⟩
  · exact ⟨rfl, fin_all ⟨8 - (i + 1), by omega, i + 1, rfl, isF_ne hf hi (by omega) (by assumption), rfl, rfl⟩⟩
theorem take_full (h8 : N ≤ 8) (g : Int) (h0 : 0 ≤ g) (h1 : g ≤ 15) (hk : IsF (fun j => (s j).g = g) 8 8) (hf : IsF (fun j => (s j).g < 0) N N) :
    Fnc Try.prog 14 [pt r, .int .i64 g] [tB r N s] (Ret (.tuple #[.int .i64 0, .int .i64 9]) [tB r N s]) := by
  have hfi := find r N g s 8 h0 hk
  rw [if_neg (by omega)] at hfi
  refine fn_intro Try.func14 (by kernel_rfl) ?_
  repeat' ((conv => whnf); first
      | refine call_same hfi ?_
      | refine ld1_row (tc_0 _ _) ?_
      | refine loop_rule [30] (fun vs M m => ∃ i : Nat, vs = [.int .i64 i] ∧ i ≤ N ∧ m = 8 - i ∧ M = [tB r N s]) rfl ?_ ?_
      | refine ld1_lit ?_
      | refine ldN_lit ?_
      | refine nw (fun n => ?_)
      | refine st_lit rfl ?_
      | refine need (by first | rfl | omega) ?_
      | (refine wr (fun z hz => ?_); (try rw [Int.tdiv_eq_ediv_of_nonneg (by omega)] at hz); rw [w64 (by omega) (by omega)] at hz; subst hz)
      | (refine zv (fun z hz => ?_); (try rw [Int.tmod_eq_emod_of_nonneg (by omega)] at hz); subst hz)
      | (refine ifs (fun h => ?_) (fun h => ?_) <;> (try (exfalso; first | omega | with_reducible contradiction | with_reducible exact h rfl))))
  · exact fin_all ⟨_, 0, rfl, by omega, rfl, rfl⟩
  rintro vs junk M' m ⟨i, rfl, hi, rfl, rfl⟩
  repeat' ((conv => whnf); first
      | (refine nv (fun z hz => ?_); (try simp at hz); replace hz := hz.symm; subst hz)
      | refine ld1_row (v := .int .i64 (s i).g) (tc_get (k := 0) (by omega) (by omega)) ?_
      | refine st_slot (i := i) (takeS g) (by omega) ?_
      | refine ld1_lit ?_
      | refine ldN_lit ?_
      | refine nw (fun n => ?_)
      | refine st_lit rfl ?_
      | refine need (by first | rfl | omega) ?_
      | (refine wr (fun z hz => ?_); (try rw [Int.tdiv_eq_ediv_of_nonneg (by omega)] at hz); rw [w64 (by omega) (by omega)] at hz; subst hz)
      | (refine zv (fun z hz => ?_); (try rw [Int.tmod_eq_emod_of_nonneg (by omega)] at hz); subst hz)
      | (refine ifs (fun h => ?_) (fun h => ?_) <;> (try (exfalso; first | omega | with_reducible contradiction | with_reducible exact h rfl))))
  all_goals (conv => whnf)
  · exact absurd (by assumption) (hf.2.1 i (by omega))
  · exact ⟨rfl, fin_all ⟨8 - (i + 1), by omega, i + 1, rfl, by omega, rfl, rfl⟩⟩
  · exact fin_all ⟨rfl, rfl⟩
theorem free_out (i : Int) (h : i < 0 ∨ N ≤ i) : Fnc Try.prog 16 [pt r, .int .i64 i] [tB r N s] (Ret (.int .i64 3) [tB r N s]) := by
  refine fn_intro Try.func16 (by kernel_rfl) ?_
  repeat' ((conv => whnf); first
      | refine call_same (slot_out r N i s h) ?_
      | exact fin_all ⟨rfl, rfl⟩
      | refine ld1_lit ?_
      | refine ldN_lit ?_
      | refine nw (fun n => ?_)
      | refine st_lit rfl ?_
      | refine need (by first | rfl | omega) ?_
      | (refine wr (fun z hz => ?_); (try rw [Int.tdiv_eq_ediv_of_nonneg (by omega)] at hz); rw [w64 (by omega) (by omega)] at hz; subst hz)
      | (refine zv (fun z hz => ?_); (try rw [Int.tmod_eq_emod_of_nonneg (by omega)] at hz); subst hz)
      | (refine ifs (fun h => ?_) (fun h => ?_) <;> (try (exfalso; first | omega | with_reducible contradiction | with_reducible exact h rfl))))
theorem free_none (h8 : N ≤ 8) (i : Nat) (h : i < N) (hg : (s i).g < 0) : Fnc Try.prog 16 [pt r, .int .i64 i] [tB r N s] (Ret (.int .i64 7) [tB r N s]) := by
  have hs := slot_in r N i s (by omega) (by omega)
  rw [if_pos hg] at hs
  refine fn_intro Try.func16 (by kernel_rfl) ?_
  repeat' ((conv => whnf); first
      | refine call_same hs ?_
      | exact fin_all ⟨rfl, rfl⟩
      | refine ld1_lit ?_
      | refine ldN_lit ?_
      | refine nw (fun n => ?_)
      | refine st_lit rfl ?_
      | refine need (by first | rfl | omega) ?_
      | (refine wr (fun z hz => ?_); (try rw [Int.tdiv_eq_ediv_of_nonneg (by omega)] at hz); rw [w64 (by omega) (by omega)] at hz; subst hz)
      | (refine zv (fun z hz => ?_); (try rw [Int.tmod_eq_emod_of_nonneg (by omega)] at hz); subst hz)
      | (refine ifs (fun h => ?_) (fun h => ?_) <;> (try (exfalso; first | omega | with_reducible contradiction | with_reducible exact h rfl))))
theorem free_busy (h8 : N ≤ 8) (i : Nat) (h : i < N) (hg : ¬ (s i).g < 0) (hb : busyB (s i) = true) : Fnc Try.prog 16 [pt r, .int .i64 i] [tB r N s] (Ret (.int .i64 15) [tB r N s]) := by
  have hs := slot_in r N i s (by omega) (by omega)
  rw [if_neg hg] at hs
  refine fn_intro Try.func16 (by kernel_rfl) ?_
  repeat' ((conv => whnf); first
      | refine call_same hs ?_
      | refine ldN_row [.bool ((s i).d 0), .bool ((s i).d 1), .bool ((s i).d 2), .bool ((s i).d 3)] (tc_d (by omega)) rfl ?_
      | (refine agg_neq k4 (by decide) rfl rfl rfl rfl (by kernel_rfl) (f4 _ _ _ _) (f4 _ _ _ _) ?_; refine iff' (fun hc => by rw [(busy_iff _).1 hc] at hb; cases hb) ?_)
      | exact fin_all ⟨rfl, rfl⟩
      | refine ld1_lit ?_
      | refine ldN_lit ?_
      | refine nw (fun n => ?_)
      | refine st_lit rfl ?_
      | refine need (by first | rfl | omega) ?_
      | (refine wr (fun z hz => ?_); (try rw [Int.tdiv_eq_ediv_of_nonneg (by omega)] at hz); rw [w64 (by omega) (by omega)] at hz; subst hz)
      | (refine zv (fun z hz => ?_); (try rw [Int.tmod_eq_emod_of_nonneg (by omega)] at hz); subst hz)
      | (refine ifs (fun h => ?_) (fun h => ?_) <;> (try (exfalso; first | omega | with_reducible contradiction | with_reducible exact h rfl))))
theorem free_ok (h8 : N ≤ 8) (i : Nat) (h : i < N) (hg : ¬ (s i).g < 0) (hb : busyB (s i) = false) : Fnc Try.prog 16 [pt r, .int .i64 i] [tB r N s] (Ret (.int .i64 0) [tB r N (upd s i freeS)]) := by
  have hs := slot_in r N i s (by omega) (by omega)
  rw [if_neg hg] at hs
  refine fn_intro Try.func16 (by kernel_rfl) ?_
  repeat' ((conv => whnf); first
      | refine call_same hs ?_
      | refine call_val free ?_
      | refine ldN_row [.bool ((s i).d 0), .bool ((s i).d 1), .bool ((s i).d 2), .bool ((s i).d 3)] (tc_d (by omega)) rfl ?_
      | (refine agg_neq k4 (by decide) rfl rfl rfl rfl (by kernel_rfl) (f4 _ _ _ _) (f4 _ _ _ _) ?_; refine ift ((busy_iff _).2 hb) ?_)
      | refine st_slot (i := i) freeS (by omega) ?_
      | exact fin_all ⟨rfl, rfl⟩
      | refine ld1_lit ?_
      | refine ldN_lit ?_
      | refine nw (fun n => ?_)
      | refine st_lit rfl ?_
      | refine need (by first | rfl | omega) ?_
      | (refine wr (fun z hz => ?_); (try rw [Int.tdiv_eq_ediv_of_nonneg (by omega)] at hz); rw [w64 (by omega) (by omega)] at hz; subst hz)
      | (refine zv (fun z hz => ?_); (try rw [Int.tmod_eq_emod_of_nonneg (by omega)] at hz); subst hz)
      | (refine ifs (fun h => ?_) (fun h => ?_) <;> (try (exfalso; first | omega | with_reducible contradiction | with_reducible exact h rfl))))
theorem mark_out (i p : Int) (v d : Bool) (h : i < 0 ∨ N ≤ i ∨ p < 0 ∨ 4 ≤ p) : Fnc Try.prog 17 [pt r, .int .i64 i, .int .i64 p, .bool v, .bool d] [tB r N s] (Ret (.int .i64 3) [tB r N s]) := by
  refine fn_intro Try.func17 (by kernel_rfl) ?_
  repeat' ((conv => whnf); first
      | refine call_same (slot_out r N i s (by omega)) ?_
      | exact fin_all ⟨rfl, rfl⟩
      | refine ld1_lit ?_
      | refine ldN_lit ?_
      | refine nw (fun n => ?_)
      | refine st_lit rfl ?_
      | refine need (by first | rfl | omega) ?_
      | (refine wr (fun z hz => ?_); (try rw [Int.tdiv_eq_ediv_of_nonneg (by omega)] at hz); rw [w64 (by omega) (by omega)] at hz; subst hz)
      | (refine zv (fun z hz => ?_); (try rw [Int.tmod_eq_emod_of_nonneg (by omega)] at hz); subst hz)
      | (refine ifs (fun h => ?_) (fun h => ?_) <;> (try (exfalso; first | omega | with_reducible contradiction | with_reducible exact h rfl))))
theorem mark_none (h8 : N ≤ 8) (i p : Nat) (v d : Bool) (h : i < N) (hp : p < 4) (hg : (s i).g < 0) : Fnc Try.prog 17 [pt r, .int .i64 i, .int .i64 p, .bool v, .bool d] [tB r N s] (Ret (.int .i64 7) [tB r N s]) := by
  have hs := slot_in r N i s (by omega) (by omega)
  rw [if_pos hg] at hs
  refine fn_intro Try.func17 (by kernel_rfl) ?_
  repeat' ((conv => whnf); first
      | refine call_same hs ?_
      | exact fin_all ⟨rfl, rfl⟩
      | refine ld1_lit ?_
      | refine ldN_lit ?_
      | refine nw (fun n => ?_)
      | refine st_lit rfl ?_
      | refine need (by first | rfl | omega) ?_
      | (refine wr (fun z hz => ?_); (try rw [Int.tdiv_eq_ediv_of_nonneg (by omega)] at hz); rw [w64 (by omega) (by omega)] at hz; subst hz)
      | (refine zv (fun z hz => ?_); (try rw [Int.tmod_eq_emod_of_nonneg (by omega)] at hz); subst hz)
      | (refine ifs (fun h => ?_) (fun h => ?_) <;> (try (exfalso; first | omega | with_reducible contradiction | with_reducible exact h rfl))))
theorem mark_arg (h8 : N ≤ 8) (i p : Nat) (h : i < N) (hp : p < 4) (hg : ¬ (s i).g < 0) : Fnc Try.prog 17 [pt r, .int .i64 i, .int .i64 p, .bool false, .bool true] [tB r N s] (Ret (.int .i64 2) [tB r N s]) := by
  have hs := slot_in r N i s (by omega) (by omega)
  rw [if_neg hg] at hs
  refine fn_intro Try.func17 (by kernel_rfl) ?_
  repeat' ((conv => whnf); first
      | refine call_same hs ?_
      | exact fin_all ⟨rfl, rfl⟩
      | refine ld1_lit ?_
      | refine ldN_lit ?_
      | refine nw (fun n => ?_)
      | refine st_lit rfl ?_
      | refine need (by first | rfl | omega) ?_
      | (refine wr (fun z hz => ?_); (try rw [Int.tdiv_eq_ediv_of_nonneg (by omega)] at hz); rw [w64 (by omega) (by omega)] at hz; subst hz)
      | (refine zv (fun z hz => ?_); (try rw [Int.tmod_eq_emod_of_nonneg (by omega)] at hz); subst hz)
      | (refine ifs (fun h => ?_) (fun h => ?_) <;> (try (exfalso; first | omega | with_reducible contradiction | with_reducible exact h rfl))))
theorem mark_ok (h8 : N ≤ 8) (i p : Nat) (v d : Bool) (h : i < N) (hp : p < 4) (hg : ¬ (s i).g < 0) (hvd : d = true → v = true) : Fnc Try.prog 17 [pt r, .int .i64 i, .int .i64 p, .bool v, .bool d] [tB r N s] (Ret (.int .i64 0) [tB r N (upd s i (setD (setV (s i) p v) p d))]) := by
  have hs := slot_in r N i s (by omega) (by omega)
  rw [if_neg hg] at hs
  refine fn_intro Try.func17 (by kernel_rfl) ?_
  cases d <;> cases v
  all_goals repeat' ((conv => whnf); first
      | refine call_same hs ?_
      | refine draw_any 8 [(0, true), (1, true), (2, true), (3, true), (4, true), (5, true), (6, true), (7, true), (8, true), (10, true), (11, true), (9, false), (12, true), (13, false)] [] rfl (by kernel_rfl) ?_
      | refine kept_nil ?_
      | (refine nv (fun z hz => ?_); (try simp at hz); replace hz := hz.symm; subst hz)
      | refine st_slot1' (i := i) (1 + p) _ (by omega) (by omega) (by omega) (sc_setV (s i) hp _) rfl ?_
      | refine st_slot1' (i := i) (5 + p) _ (by omega) (by omega) (by omega) (by rw [upd_at]; exact sc_setD _ hp _) rfl ?_
      | refine ld1_lit ?_
      | refine ldN_lit ?_
      | refine nw (fun n => ?_)
      | refine st_lit rfl ?_
      | refine need (by first | rfl | omega) ?_
      | (refine wr (fun z hz => ?_); (try rw [Int.tdiv_eq_ediv_of_nonneg (by omega)] at hz); rw [w64 (by omega) (by omega)] at hz; subst hz)
      | (refine zv (fun z hz => ?_); (try rw [Int.tmod_eq_emod_of_nonneg (by omega)] at hz); subst hz)
      | (refine ifs (fun h => ?_) (fun h => ?_) <;> (try (exfalso; first | omega | with_reducible contradiction | with_reducible exact h rfl))))
  all_goals (conv => whnf)
  all_goals first
    | exact fin_all ⟨rfl, by rw [upd_upd]⟩
    | exact absurd (hvd rfl) (by decide)
theorem raise_out (i l : Int) (h : i < 0 ∨ N ≤ i ∨ l < 0 ∨ 4 ≤ l) : Fnc Try.prog 18 [pt r, .int .i64 i, .int .i64 l] [tB r N s] (Ret (.int .i64 3) [tB r N s]) := by
  refine fn_intro Try.func18 (by kernel_rfl) ?_
  repeat' ((conv => whnf); first
      | refine call_same (slot_out r N i s (by omega)) ?_
      | exact fin_all ⟨rfl, rfl⟩
      | refine ld1_lit ?_
      | refine ldN_lit ?_
      | refine nw (fun n => ?_)
      | refine st_lit rfl ?_
      | refine need (by first | rfl | omega) ?_
      | (refine wr (fun z hz => ?_); (try rw [Int.tdiv_eq_ediv_of_nonneg (by omega)] at hz); rw [w64 (by omega) (by omega)] at hz; subst hz)
      | (refine zv (fun z hz => ?_); (try rw [Int.tmod_eq_emod_of_nonneg (by omega)] at hz); subst hz)
      | (refine ifs (fun h => ?_) (fun h => ?_) <;> (try (exfalso; first | omega | with_reducible contradiction | with_reducible exact h rfl))))
theorem raise_none (h8 : N ≤ 8) (i : Nat) (l : Int) (h : i < N) (h0 : 0 ≤ l) (h4 : l < 4) (hg : (s i).g < 0) : Fnc Try.prog 18 [pt r, .int .i64 i, .int .i64 l] [tB r N s] (Ret (.int .i64 7) [tB r N s]) := by
  have hs := slot_in r N i s (by omega) (by omega)
  rw [if_pos hg] at hs
  refine fn_intro Try.func18 (by kernel_rfl) ?_
  repeat' ((conv => whnf); first
      | refine call_same hs ?_
      | exact fin_all ⟨rfl, rfl⟩
      | refine ld1_lit ?_
      | refine ldN_lit ?_
      | refine nw (fun n => ?_)
      | refine st_lit rfl ?_
      | refine need (by first | rfl | omega) ?_
      | (refine wr (fun z hz => ?_); (try rw [Int.tdiv_eq_ediv_of_nonneg (by omega)] at hz); rw [w64 (by omega) (by omega)] at hz; subst hz)
      | (refine zv (fun z hz => ?_); (try rw [Int.tmod_eq_emod_of_nonneg (by omega)] at hz); subst hz)
      | (refine ifs (fun h => ?_) (fun h => ?_) <;> (try (exfalso; first | omega | with_reducible contradiction | with_reducible exact h rfl))))
theorem raise_ok (h8 : N ≤ 8) (i : Nat) (l : Int) (h : i < N) (h0 : 0 ≤ l) (h4 : l < 4) (hg : ¬ (s i).g < 0) : Fnc Try.prog 18 [pt r, .int .i64 i, .int .i64 l] [tB r N s] (Ret (.int .i64 0) [tB r N (upd s i { (s i) with lv := l })]) := by
  have hs := slot_in r N i s (by omega) (by omega)
  rw [if_neg hg] at hs
  refine fn_intro Try.func18 (by kernel_rfl) ?_
  repeat' ((conv => whnf); first
      | refine call_same hs ?_
      | refine st_slot1' (i := i) 9 _ (by omega) (by omega) (by omega) (sc_setL (s i) l) rfl ?_
      | exact fin_all ⟨rfl, rfl⟩
      | refine ld1_lit ?_
      | refine ldN_lit ?_
      | refine nw (fun n => ?_)
      | refine st_lit rfl ?_
      | refine need (by first | rfl | omega) ?_
      | (refine wr (fun z hz => ?_); (try rw [Int.tdiv_eq_ediv_of_nonneg (by omega)] at hz); rw [w64 (by omega) (by omega)] at hz; subst hz)
      | (refine zv (fun z hz => ?_); (try rw [Int.tmod_eq_emod_of_nonneg (by omega)] at hz); subst hz)
      | (refine ifs (fun h => ?_) (fun h => ?_) <;> (try (exfalso; first | omega | with_reducible contradiction | with_reducible exact h rfl))))
end
end Go.Proofs.Ytlmhagngbfcdkaa.Slots
