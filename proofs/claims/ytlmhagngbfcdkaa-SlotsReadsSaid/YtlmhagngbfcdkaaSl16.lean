/- slots.Read: which tables may be. -/
import Derived.Test.YtlmhagngbfcdkaaSl15
namespace Go.Proofs.Ytlmhagngbfcdkaa.Slots
open Go Ev Be
set_option linter.unusedVariables false
set_option linter.unusedSimpArgs false
set_option maxRecDepth 100000
/-- Has one of the first i slots this group? -/
def seenB (s : Nat → Sl10) (i : Nat) (g : Int) : Bool := (List.range i).any fun a => (s a).g == g
theorem seenB_t {s : Nat → Sl10} {i : Nat} {g : Int} : seenB s i g = true ↔ ∃ a, a < i ∧ (s a).g = g := by
  unfold seenB; simp
theorem seenB_f {s : Nat → Sl10} {i : Nat} {g : Int} (h : seenB s i g = false) : ∀ a, a < i → (s a).g ≠ g := fun a ha he => by
  have := seenB_t.2 ⟨a, ha, he⟩
  rw [h] at this; cases this
def seenL (s : Nat → Sl10) (i : Nat) : List Value := (List.range 16).map fun j : Nat => .bool (seenB s i (j : Int))
theorem seenL_len (s : Nat → Sl10) (i : Nat) : (seenL s i).length = 16 := by unfold seenL; simp
theorem seenL_0 (s : Nat → Sl10) : List.replicate 16 (Value.bool false) = seenL s 0 := rfl
theorem seenL_at {s : Nat → Sl10} {i k : Nat} (hk : k < 16) : (seenL s i)[k]? = some (.bool (seenB s i k)) := by
  unfold seenL; rw [List.getElem?_map, List.getElem?_range hk]; rfl
theorem seenB_succ (s : Nat → Sl10) (i : Nat) (g : Int) : seenB s (i + 1) g = (seenB s i g || ((s i).g == g)) := by
  unfold seenB; rw [List.range_succ, List.any_append]; simp
theorem seenL_neg {s : Nat → Sl10} {i : Nat} (h : (s i).g < 0) : seenL s (i + 1) = seenL s i := by
  unfold seenL
  refine List.map_congr_left fun j hj => ?_
  rw [seenB_succ, show ((s i).g == (j : Int)) = false by simp; omega, Bool.or_false]
theorem seenL_set {s : Nat → Sl10} {i : Nat} (h0 : 0 ≤ (s i).g) (h1 : (s i).g < 16) : (seenL s i).set (s i).g.toNat (.bool true) = seenL s (i + 1) := by
  apply List.ext_getElem?
  intro k
  rw [List.getElem?_set, seenL_len]
  by_cases hk : k < 16
  · rw [seenL_at hk, seenL_at hk, seenB_succ]
    by_cases e : (s i).g.toNat = k
    · rw [if_pos e, if_pos (by omega), show ((s i).g == (k : Int)) = true by simp; omega, Bool.or_true]
    · rw [if_neg e, show ((s i).g == (k : Int)) = false by simp; omega, Bool.or_false]
  · rw [if_neg (by omega), List.getElem?_eq_none (by rw [seenL_len]; omega), List.getElem?_eq_none (by rw [seenL_len]; omega)]
attribute [local irreducible] rl tc bu biX rowI rowE rowS padE padS by1 pw full sBy cnt bt seenB seenL convert Builtin.copy_ Builtin.append_ Instr.makeSlice
def RiQ (r N : Nat) (s : Nat → Sl10) : Ending → List Blk → Prop := fun e A => A = [tB r N s] ∧ ∃ b : Bool, e = .returned (.bool b) ∧ (b = true ↔ Right N s)
theorem fin_riF {M R : List Blk} {r N i : Nat} {s : Nat → Sl10} (ht : Takes M [tB r N s] R) (hi : i < 8) (h : ¬ okR N s i) : Ev.Fin M (RiQ r N s (.returned (oneOrMany [.bool false]))) :=
  fin_pick ht ⟨rfl, false, rfl, ⟨fun h => (by cases h), fun hr => absurd (hr i hi) h⟩⟩
theorem st_seen {P : Program} {M : List Blk} {r i : Nat} {s : Nat → Sl10} {T : TypeId} {f : Blk → List Blk} {K : List Blk → Prop} [z : Zip M r (.row (seenL s i) T) f] (h0 : 0 ≤ (s i).g) (h1 : (s i).g < 16) (hk : K (f ⟨r, .row (seenL s (i + 1)) T⟩)) : StN P M r (s i).g.toNat [.bool true] K :=
  st_row rfl (by rw [seenL_len]; omega) (by rw [seenL_set h0 h1]; exact hk)
set_option maxHeartbeats 8000000 in
theorem right (r N : Nat) (s : Nat → Sl10) : Fnc Try.prog 38 [pt r] [tB r N s] (RiQ r N s) := by
  refine fn_intro Try.func38 (by kernel_rfl) ?_
  repeat' ((conv => whnf); first
      | refine ldN_row (rl 8 s) (by rw [rl_len]; exact tc_all N s) (rl_len 8 s) ?_
      | refine ld1_lit ?_
      | refine ldN_lit ?_
      | refine nw (fun n => ?_)
      | refine st_lit rfl ?_
      | refine need (by first | rfl | omega) ?_
      | (refine wr (fun z hz => ?_); (try rw [Int.tdiv_eq_ediv_of_nonneg (by omega)] at hz); rw [w64 (by omega) (by omega)] at hz; subst hz)
      | (refine zv (fun z hz => ?_); (try rw [Int.tmod_eq_emod_of_nonneg (by omega)] at hz); subst hz)
      | (refine ifs (fun h => ?_) (fun h => ?_) <;> (try (exfalso; first | omega | with_reducible contradiction | with_reducible exact h rfl))))
  revert n; intro sn
  refine to_row sn (seenL_0 s) ?_
  refine loop_rule [11] (fun vs M m => ∃ i : Nat, vs = [.int .i64 i] ∧ i ≤ 8 ∧ (∀ j, j < i → okR N s j) ∧ m = 8 - i ∧ M = [⟨sn, .row (seenL s i) 79⟩, tB r N s]) rfl ?_ ?_
  · exact fin_all ⟨_, 0, rfl, by omega, fun j hj => absurd hj (by omega), rfl, rfl⟩
  rintro vs junk M' m ⟨i, rfl, hi, hok, rfl, rfl⟩
  by_cases hi8 : i < 8
  · by_cases hg : (s i).g < 0
    · have hsn := seenL_neg hg
      repeat' ((conv => whnf); first
          | (refine nv (fun z hz => ?_); (try simp at hz); replace hz := hz.symm; subst hz)
          | refine part_of' (l := rl 8 s) (q := i * 10) (m := 10) (r := sc (s i)) (rl_part (by omega)) rfl (by omega) ?_
          | refine draw_quiet rfl (by kernel_rfl) ?_
          | refine qldN_lit ?_
          | refine qcall_val free ?_
          | (refine qagg_neq kSl (by decide) rfl rfl rfl rfl (by kernel_rfl) (fSl _) (fSl freeS) ?_)
          | refine ld1_lit ?_
          | refine ldN_lit ?_
          | refine nw (fun n => ?_)
          | refine st_lit rfl ?_
          | refine need (by first | rfl | omega) ?_
          | (refine wr (fun z hz => ?_); (try rw [Int.tdiv_eq_ediv_of_nonneg (by omega)] at hz); rw [w64 (by omega) (by omega)] at hz; subst hz)
          | (refine zv (fun z hz => ?_); (try rw [Int.tmod_eq_emod_of_nonneg (by omega)] at hz); subst hz)
          | (refine ifs (fun h => ?_) (fun h => ?_) <;> (try (exfalso; first | omega | with_reducible contradiction | with_reducible exact h rfl))))
      all_goals (conv => whnf)
      · exact ⟨rfl, fin_pick (A' := [⟨_, .row (seenL s i) 79⟩, tB r N s]) (.cons (by first | exact .here | exact .there .here | exact .there (.there .here) | exact .there (.there (.there .here)) | exact .there (.there (.there (.there .here))) | exact .there (.there (.there (.there (.there .here)))) | exact .there (.there (.there (.there (.there (.there .here)))))) (.cons (by first | exact .here | exact .there .here | exact .there (.there .here) | exact .there (.there (.there .here)) | exact .there (.there (.there (.there .here))) | exact .there (.there (.there (.there (.there .here)))) | exact .there (.there (.there (.there (.there (.there .here)))))) .nil)) ⟨8 - (i + 1), by omega, i + 1, rfl, by omega, fun j hj => by (by_cases e : j < i; exact hok j e; (obtain rfl : j = i := by omega); exact ⟨fun _ => by assumption, fun h => absurd hg (by omega)⟩), rfl, by rw [hsn]⟩⟩
      · exact fin_riF (.cons (by first | exact .here | exact .there .here | exact .there (.there .here) | exact .there (.there (.there .here)) | exact .there (.there (.there (.there .here))) | exact .there (.there (.there (.there (.there .here)))) | exact .there (.there (.there (.there (.there (.there .here)))))) .nil) hi8 (fun h => absurd (h.1 hg) (by assumption))
    · have hsl : (s i).g < 16 → (seenL s i)[(s i).g.toNat]? = some (.bool (seenB s i (s i).g)) := fun h => by
        rw [seenL_at (by omega), show (((s i).g.toNat : Nat) : Int) = (s i).g by omega]
      rcases hsb : seenB s i (s i).g with _ | _
      all_goals rw [hsb] at hsl
      all_goals repeat' ((conv => whnf); first
          | (refine nv (fun z hz => ?_); (try simp at hz); replace hz := hz.symm; subst hz)
          | refine part_of' (l := rl 8 s) (q := i * 10) (m := 10) (r := sc (s i)) (rl_part (by omega)) rfl (by omega) ?_
          | refine ld1_row (tc_0 _ _) ?_
          | refine ld1_row (hsl (by omega)) ?_
          | refine st_seen (by omega) (by omega) ?_
          | refine ld1_lit ?_
          | refine ldN_lit ?_
          | refine nw (fun n => ?_)
          | refine st_lit rfl ?_
          | refine need (by first | rfl | omega) ?_
          | (refine wr (fun z hz => ?_); (try rw [Int.tdiv_eq_ediv_of_nonneg (by omega)] at hz); rw [w64 (by omega) (by omega)] at hz; subst hz)
          | (refine zv (fun z hz => ?_); (try rw [Int.tmod_eq_emod_of_nonneg (by omega)] at hz); subst hz)
          | (refine ifs (fun h => ?_) (fun h => ?_) <;> (try (exfalso; first | omega | with_reducible contradiction | with_reducible exact h rfl))))
      all_goals (conv => whnf)
      all_goals try exact fin_riF (.cons (by first | exact .here | exact .there .here | exact .there (.there .here) | exact .there (.there (.there .here)) | exact .there (.there (.there (.there .here))) | exact .there (.there (.there (.there (.there .here)))) | exact .there (.there (.there (.there (.there (.there .here)))))) .nil) hi8 (fun h => by
        have h2 := h.2 (by omega)
        first | omega | (obtain ⟨a, ha, he⟩ := seenB_t.1 hsb; exact h2.2.2.1 a ha he))
      have hsf := seenB_f hsb
      obtain ⟨gx, ev⟩ : ∃ x, x = (s i).g := ⟨_, rfl⟩
      obtain ⟨lx, el⟩ : ∃ x, x = (s i).lv := ⟨_, rfl⟩
      obtain ⟨v0, ev0⟩ : ∃ x, x = (s i).v 0 := ⟨_, rfl⟩
      obtain ⟨d0, ed0⟩ : ∃ x, x = (s i).d 0 := ⟨_, rfl⟩
      obtain ⟨v1, ev1⟩ : ∃ x, x = (s i).v 1 := ⟨_, rfl⟩
      obtain ⟨d1, ed1⟩ : ∃ x, x = (s i).d 1 := ⟨_, rfl⟩
      obtain ⟨v2, ev2⟩ : ∃ x, x = (s i).v 2 := ⟨_, rfl⟩
      obtain ⟨d2, ed2⟩ : ∃ x, x = (s i).d 2 := ⟨_, rfl⟩
      obtain ⟨v3, ev3⟩ : ∃ x, x = (s i).v 3 := ⟨_, rfl⟩
      obtain ⟨d3, ed3⟩ : ∃ x, x = (s i).d 3 := ⟨_, rfl⟩
      refine loop_rule [48] (fun vs M m => ∃ k : Nat, vs = [.int .i64 k] ∧ k ≤ 4 ∧ (∀ p, p < k → (s i).d p = true → (s i).v p = true) ∧ m = 4 - k ∧ M = [⟨n, .cells [.int .i64 gx, .bool v0, .bool v1, .bool v2, .bool v3, .bool d0, .bool d1, .bool d2, .bool d3, .int .i64 lx] 38⟩, ⟨sn, .row (seenL s (i + 1)) 79⟩, tB r N s]) rfl ?_ ?_
      · exact fin_all ⟨_, 0, rfl, by omega, fun p hp => absurd hp (by omega), rfl, by rw [ev, el, ev0, ev1, ev2, ev3, ed0, ed1, ed2, ed3]⟩
      rintro vs junk1 M' m ⟨k, rfl, hk, hdv, rfl, rfl⟩
      have hcase : k = 0 ∨ k = 1 ∨ k = 2 ∨ k = 3 ∨ k = 4 := by omega
      rcases hcase with rfl | rfl | rfl | rfl | rfl
      · rcases d0 with _ | _
        · repeat' ((conv => whnf); first
            | (refine nv (fun z hz => ?_); (try simp at hz); replace hz := hz.symm; subst hz)
            | refine ld1_lit ?_
            | refine ldN_lit ?_
            | refine nw (fun n => ?_)
            | refine st_lit rfl ?_
            | refine need (by first | rfl | omega) ?_
            | (refine wr (fun z hz => ?_); (try rw [Int.tdiv_eq_ediv_of_nonneg (by omega)] at hz); rw [w64 (by omega) (by omega)] at hz; subst hz)
            | (refine zv (fun z hz => ?_); (try rw [Int.tmod_eq_emod_of_nonneg (by omega)] at hz); subst hz)
            | (refine ifs (fun h => ?_) (fun h => ?_) <;> (try (exfalso; first | omega | with_reducible contradiction | with_reducible exact h rfl))))
          all_goals (conv => whnf)
          all_goals exact ⟨rfl, fin_all ⟨4 - 1, by omega, 1, rfl, by omega, fun p hp hpd => by (by_cases e : p < 0; exact hdv p e hpd; (obtain rfl : p = 0 := by omega); rw [← ed0] at hpd; cases hpd), rfl, rfl⟩⟩
        · rcases v0 with _ | _
          all_goals repeat' ((conv => whnf); first
              | (refine nv (fun z hz => ?_); (try simp at hz); replace hz := hz.symm; subst hz)
              | refine ld1_lit ?_
              | refine ldN_lit ?_
              | refine nw (fun n => ?_)
              | refine st_lit rfl ?_
              | refine need (by first | rfl | omega) ?_
              | (refine wr (fun z hz => ?_); (try rw [Int.tdiv_eq_ediv_of_nonneg (by omega)] at hz); rw [w64 (by omega) (by omega)] at hz; subst hz)
              | (refine zv (fun z hz => ?_); (try rw [Int.tmod_eq_emod_of_nonneg (by omega)] at hz); subst hz)
              | (refine ifs (fun h => ?_) (fun h => ?_) <;> (try (exfalso; first | omega | with_reducible contradiction | with_reducible exact h rfl))))
          all_goals (conv => whnf)
          · exact fin_riF (.cons (by first | exact .here | exact .there .here | exact .there (.there .here) | exact .there (.there (.there .here)) | exact .there (.there (.there (.there .here))) | exact .there (.there (.there (.there (.there .here)))) | exact .there (.there (.there (.there (.there (.there .here)))))) .nil) hi8 (fun h => by have := (h.2 (by omega)).2.2.2.2 0 (by omega) ed0.symm; rw [← ev0] at this; cases this)
          · exact ⟨rfl, fin_all ⟨4 - 1, by omega, 1, rfl, by omega, fun p hp hpd => by (by_cases e : p < 0; exact hdv p e hpd; (obtain rfl : p = 0 := by omega); exact ev0.symm), rfl, rfl⟩⟩
      · rcases d1 with _ | _
        · repeat' ((conv => whnf); first
            | (refine nv (fun z hz => ?_); (try simp at hz); replace hz := hz.symm; subst hz)
            | refine ld1_lit ?_
            | refine ldN_lit ?_
            | refine nw (fun n => ?_)
            | refine st_lit rfl ?_
            | refine need (by first | rfl | omega) ?_
            | (refine wr (fun z hz => ?_); (try rw [Int.tdiv_eq_ediv_of_nonneg (by omega)] at hz); rw [w64 (by omega) (by omega)] at hz; subst hz)
            | (refine zv (fun z hz => ?_); (try rw [Int.tmod_eq_emod_of_nonneg (by omega)] at hz); subst hz)
            | (refine ifs (fun h => ?_) (fun h => ?_) <;> (try (exfalso; first | omega | with_reducible contradiction | with_reducible exact h rfl))))
          all_goals (conv => whnf)
          all_goals exact ⟨rfl, fin_all ⟨4 - 2, by omega, 2, rfl, by omega, fun p hp hpd => by (by_cases e : p < 1; exact hdv p e hpd; (obtain rfl : p = 1 := by omega); rw [← ed1] at hpd; cases hpd), rfl, rfl⟩⟩
        · rcases v1 with _ | _
          all_goals repeat' ((conv => whnf); first
              | (refine nv (fun z hz => ?_); (try simp at hz); replace hz := hz.symm; subst hz)
              | refine ld1_lit ?_
              | refine ldN_lit ?_
              | refine nw (fun n => ?_)
              | refine st_lit rfl ?_
              | refine need (by first | rfl | omega) ?_
              | (refine wr (fun z hz => ?_); (try rw [Int.tdiv_eq_ediv_of_nonneg (by omega)] at hz); rw [w64 (by omega) (by omega)] at hz; subst hz)
              | (refine zv (fun z hz => ?_); (try rw [Int.tmod_eq_emod_of_nonneg (by omega)] at hz); subst hz)
              | (refine ifs (fun h => ?_) (fun h => ?_) <;> (try (exfalso; first | omega | with_reducible contradiction | with_reducible exact h rfl))))
          all_goals (conv => whnf)
          · exact fin_riF (.cons (by first | exact .here | exact .there .here | exact .there (.there .here) | exact .there (.there (.there .here)) | exact .there (.there (.there (.there .here))) | exact .there (.there (.there (.there (.there .here)))) | exact .there (.there (.there (.there (.there (.there .here)))))) .nil) hi8 (fun h => by have := (h.2 (by omega)).2.2.2.2 1 (by omega) ed1.symm; rw [← ev1] at this; cases this)
          · exact ⟨rfl, fin_all ⟨4 - 2, by omega, 2, rfl, by omega, fun p hp hpd => by (by_cases e : p < 1; exact hdv p e hpd; (obtain rfl : p = 1 := by omega); exact ev1.symm), rfl, rfl⟩⟩
      · rcases d2 with _ | _
        · repeat' ((conv => whnf); first
            | (refine nv (fun z hz => ?_); (try simp at hz); replace hz := hz.symm; subst hz)
            | refine ld1_lit ?_
            | refine ldN_lit ?_
            | refine nw (fun n => ?_)
            | refine st_lit rfl ?_
            | refine need (by first | rfl | omega) ?_
            | (refine wr (fun z hz => ?_); (try rw [Int.tdiv_eq_ediv_of_nonneg (by omega)] at hz); rw [w64 (by omega) (by omega)] at hz; subst hz)
            | (refine zv (fun z hz => ?_); (try rw [Int.tmod_eq_emod_of_nonneg (by omega)] at hz); subst hz)
            | (refine ifs (fun h => ?_) (fun h => ?_) <;> (try (exfalso; first | omega | with_reducible contradiction | with_reducible exact h rfl))))
          all_goals (conv => whnf)
          all_goals exact ⟨rfl, fin_all ⟨4 - 3, by omega, 3, rfl, by omega, fun p hp hpd => by (by_cases e : p < 2; exact hdv p e hpd; (obtain rfl : p = 2 := by omega); rw [← ed2] at hpd; cases hpd), rfl, rfl⟩⟩
        · rcases v2 with _ | _
          all_goals repeat' ((conv => whnf); first
              | (refine nv (fun z hz => ?_); (try simp at hz); replace hz := hz.symm; subst hz)
              | refine ld1_lit ?_
              | refine ldN_lit ?_
              | refine nw (fun n => ?_)
              | refine st_lit rfl ?_
              | refine need (by first | rfl | omega) ?_
              | (refine wr (fun z hz => ?_); (try rw [Int.tdiv_eq_ediv_of_nonneg (by omega)] at hz); rw [w64 (by omega) (by omega)] at hz; subst hz)
              | (refine zv (fun z hz => ?_); (try rw [Int.tmod_eq_emod_of_nonneg (by omega)] at hz); subst hz)
              | (refine ifs (fun h => ?_) (fun h => ?_) <;> (try (exfalso; first | omega | with_reducible contradiction | with_reducible exact h rfl))))
          all_goals (conv => whnf)
          · exact fin_riF (.cons (by first | exact .here | exact .there .here | exact .there (.there .here) | exact .there (.there (.there .here)) | exact .there (.there (.there (.there .here))) | exact .there (.there (.there (.there (.there .here)))) | exact .there (.there (.there (.there (.there (.there .here)))))) .nil) hi8 (fun h => by have := (h.2 (by omega)).2.2.2.2 2 (by omega) ed2.symm; rw [← ev2] at this; cases this)
          · exact ⟨rfl, fin_all ⟨4 - 3, by omega, 3, rfl, by omega, fun p hp hpd => by (by_cases e : p < 2; exact hdv p e hpd; (obtain rfl : p = 2 := by omega); exact ev2.symm), rfl, rfl⟩⟩
      · rcases d3 with _ | _
        · repeat' ((conv => whnf); first
            | (refine nv (fun z hz => ?_); (try simp at hz); replace hz := hz.symm; subst hz)
            | refine ld1_lit ?_
            | refine ldN_lit ?_
            | refine nw (fun n => ?_)
            | refine st_lit rfl ?_
            | refine need (by first | rfl | omega) ?_
            | (refine wr (fun z hz => ?_); (try rw [Int.tdiv_eq_ediv_of_nonneg (by omega)] at hz); rw [w64 (by omega) (by omega)] at hz; subst hz)
            | (refine zv (fun z hz => ?_); (try rw [Int.tmod_eq_emod_of_nonneg (by omega)] at hz); subst hz)
            | (refine ifs (fun h => ?_) (fun h => ?_) <;> (try (exfalso; first | omega | with_reducible contradiction | with_reducible exact h rfl))))
          all_goals (conv => whnf)
          all_goals exact ⟨rfl, fin_all ⟨4 - 4, by omega, 4, rfl, by omega, fun p hp hpd => by (by_cases e : p < 3; exact hdv p e hpd; (obtain rfl : p = 3 := by omega); rw [← ed3] at hpd; cases hpd), rfl, rfl⟩⟩
        · rcases v3 with _ | _
          all_goals repeat' ((conv => whnf); first
              | (refine nv (fun z hz => ?_); (try simp at hz); replace hz := hz.symm; subst hz)
              | refine ld1_lit ?_
              | refine ldN_lit ?_
              | refine nw (fun n => ?_)
              | refine st_lit rfl ?_
              | refine need (by first | rfl | omega) ?_
              | (refine wr (fun z hz => ?_); (try rw [Int.tdiv_eq_ediv_of_nonneg (by omega)] at hz); rw [w64 (by omega) (by omega)] at hz; subst hz)
              | (refine zv (fun z hz => ?_); (try rw [Int.tmod_eq_emod_of_nonneg (by omega)] at hz); subst hz)
              | (refine ifs (fun h => ?_) (fun h => ?_) <;> (try (exfalso; first | omega | with_reducible contradiction | with_reducible exact h rfl))))
          all_goals (conv => whnf)
          · exact fin_riF (.cons (by first | exact .here | exact .there .here | exact .there (.there .here) | exact .there (.there (.there .here)) | exact .there (.there (.there (.there .here))) | exact .there (.there (.there (.there (.there .here)))) | exact .there (.there (.there (.there (.there (.there .here)))))) .nil) hi8 (fun h => by have := (h.2 (by omega)).2.2.2.2 3 (by omega) ed3.symm; rw [← ev3] at this; cases this)
          · exact ⟨rfl, fin_all ⟨4 - 4, by omega, 4, rfl, by omega, fun p hp hpd => by (by_cases e : p < 3; exact hdv p e hpd; (obtain rfl : p = 3 := by omega); exact ev3.symm), rfl, rfl⟩⟩
      · repeat' ((conv => whnf); first
          | (refine nv (fun z hz => ?_); (try simp at hz); replace hz := hz.symm; subst hz)
          | refine ld1_lit ?_
          | refine ldN_lit ?_
          | refine nw (fun n => ?_)
          | refine st_lit rfl ?_
          | refine need (by first | rfl | omega) ?_
          | (refine wr (fun z hz => ?_); (try rw [Int.tdiv_eq_ediv_of_nonneg (by omega)] at hz); rw [w64 (by omega) (by omega)] at hz; subst hz)
          | (refine zv (fun z hz => ?_); (try rw [Int.tmod_eq_emod_of_nonneg (by omega)] at hz); subst hz)
          | (refine ifs (fun h => ?_) (fun h => ?_) <;> (try (exfalso; first | omega | with_reducible contradiction | with_reducible exact h rfl))))
        all_goals (conv => whnf)
        exact ⟨rfl, fin_pick (A' := [⟨_, .row (seenL s (i + 1)) 79⟩, tB r N s]) (.cons (by first | exact .here | exact .there .here | exact .there (.there .here) | exact .there (.there (.there .here)) | exact .there (.there (.there (.there .here))) | exact .there (.there (.there (.there (.there .here)))) | exact .there (.there (.there (.there (.there (.there .here)))))) (.cons (by first | exact .here | exact .there .here | exact .there (.there .here) | exact .there (.there (.there .here)) | exact .there (.there (.there (.there .here))) | exact .there (.there (.there (.there (.there .here)))) | exact .there (.there (.there (.there (.there (.there .here)))))) .nil)) ⟨8 - (i + 1), by omega, i + 1, rfl, by omega, fun j hj => by (by_cases e : j < i; exact hok j e; (obtain rfl : j = i := by omega); exact ⟨fun h => absurd h hg, fun h => ⟨by omega, by omega, hsf, by omega, hdv⟩⟩), rfl, rfl⟩⟩
  · obtain rfl : i = 8 := by omega
    repeat' ((conv => whnf); first
        | exact fin_pick (.cons (.there .here) .nil) ⟨rfl, true, rfl, ⟨fun _ => hok, fun _ => rfl⟩⟩
        | refine ld1_lit ?_
        | refine ldN_lit ?_
        | refine nw (fun n => ?_)
        | refine st_lit rfl ?_
        | refine need (by first | rfl | omega) ?_
        | (refine wr (fun z hz => ?_); (try rw [Int.tdiv_eq_ediv_of_nonneg (by omega)] at hz); rw [w64 (by omega) (by omega)] at hz; subst hz)
        | (refine zv (fun z hz => ?_); (try rw [Int.tmod_eq_emod_of_nonneg (by omega)] at hz); subst hz)
        | (refine ifs (fun h => ?_) (fun h => ?_) <;> (try (exfalso; first | omega | with_reducible contradiction | with_reducible exact h rfl))))
end Go.Proofs.Ytlmhagngbfcdkaa.Slots
