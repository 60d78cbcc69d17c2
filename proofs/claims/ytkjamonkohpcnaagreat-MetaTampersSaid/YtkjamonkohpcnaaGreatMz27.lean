/- slots.Read: which tables may be. -/
import Derived.Test.YtkjamonkohpcnaaGreatMz26
import Derived.Test.YtkjamonkohpcnaaGreatMz24
import Derived.Test.YtkjamonkohpcnaaGreatMz25
namespace Go.Proofs.YtkjamonkohpcnaaGreat.Slots
open Go Ev Be
set_option linter.unusedVariables false
set_option linter.unusedSimpArgs false
set_option maxRecDepth 100000
/-- Has one of the first i slots this group? -/
def seenB (s : Nat → Sl10) (i : Nat) (g : Int) : Bool := (List.range i).any fun a => (s a).g == g
theorem seenB_t {s : Nat → Sl10} {i : Nat} {g : Int} : seenB s i g = true ↔ ∃ a, a < i ∧ (s a).g = g := by
  unfold seenB; simp
theorem seenB_f {s : Nat → Sl10} {i : Nat} {g : Int} (h : seenB s i g = false) : ∀ a, a < i → (s a).g ≠ g := fun a ha he => by
  have := seenB_t.2 ⟨a, ha, he⟩
  rw [h] at this; cases this
def seenL (s : Nat → Sl10) (i : Nat) : List Value := (List.range 16).map fun j : Nat => .bool (seenB s i (j : Int))
theorem seenL_len (s : Nat → Sl10) (i : Nat) : (seenL s i).length = 16 := by unfold seenL; simp
theorem seenL_0 (s : Nat → Sl10) : List.replicate 16 (Value.bool false) = seenL s 0 := rfl
theorem seenL_at {s : Nat → Sl10} {i k : Nat} (hk : k < 16) : (seenL s i)[k]? = some (.bool (seenB s i k)) := by
  unfold seenL; rw [List.getElem?_map, List.getElem?_range hk]; rfl
theorem seenB_succ (s : Nat → Sl10) (i : Nat) (g : Int) : seenB s (i + 1) g = (seenB s i g || ((s i).g == g)) := by
  unfold seenB; rw [List.range_succ, List.any_append]; simp
theorem seenL_neg {s : Nat → Sl10} {i : Nat} (h : (s i).g < 0) : seenL s (i + 1) = seenL s i := by
  unfold seenL
  refine List.map_congr_left fun j hj => ?_
  rw [seenB_succ, show ((s i).g == (j : Int)) = false by simp; omega, Bool.or_false]
theorem seenL_set {s : Nat → Sl10} {i : Nat} (h0 : 0 ≤ (s i).g) (h1 : (s i).g < 16) : (seenL s i).set (s i).g.toNat (.bool true) = seenL s (i + 1) := by
  apply List.ext_getElem?
  intro k
  rw [List.getElem?_set, seenL_len]
  by_cases hk : k < 16
  · rw [seenL_at hk, seenL_at hk, seenB_succ]
    by_cases e : (s i).g.toNat = k
    · rw [if_pos e, if_pos (by omega), show ((s i).g == (k : Int)) = true by simp; omega, Bool.or_true]
    · rw [if_neg e, show ((s i).g == (k : Int)) = false by simp; omega, Bool.or_false]
  · rw [if_neg (by omega), List.getElem?_eq_none (by rw [seenL_len]; omega), List.getElem?_eq_none (by rw [seenL_len]; omega)]
attribute [local irreducible] rl tc bu biX rowI rowE rowS padE padS by1 pw full sBy cnt bt seenB seenL convert Builtin.copy_ Builtin.append_ Instr.makeSlice
def RiQ (r N : Nat) (s : Nat → Sl10) : Ending → List Blk → Prop := fun e A => A = [tB r N s] ∧ ∃ b : Bool, e = .returned (.bool b) ∧ (b = true ↔ Right N s)
theorem fin_riF {M R : List Blk} {r N i : Nat} {s : Nat → Sl10} (ht : Takes M [tB r N s] R) (hi : i < 8) (h : ¬ okR N s i) : Ev.Fin M (RiQ r N s (.returned (oneOrMany [.bool false]))) :=
  fin_pick ht ⟨rfl, false, rfl, ⟨fun h => (by cases h), fun hr => absurd (hr i hi) h⟩⟩
theorem st_seen {P : Program} {M : List Blk} {r i : Nat} {s : Nat → Sl10} {T : TypeId} {f : Blk → List Blk} {K : List Blk → Prop} [z : Zip M r (.row (seenL s i) T) f] (h0 : 0 ≤ (s i).g) (h1 : (s i).g < 16) (hk : K (f ⟨r, .row (seenL s (i + 1)) T⟩)) : StN P M r (s i).g.toNat [.bool true] K :=
  st_row rfl (by rw [seenL_len]; omega) (by rw [seenL_set h0 h1]; exact hk)
set_option maxHeartbeats 8000000 in
theorem right (r N : Nat) (s : Nat → Sl10) : Fnc Tryz.prog 130 [pt r] [tB r N s] (RiQ r N s) := by
  refine fn_intro Tryz.func130 (by kernel_rfl) ?_
  repeat' ((conv => whnf); first
      | refine ldN_row (rl 8 s) (by rw [rl_len]; exact tc_all N s) (rl_len 8 s) ?_
      | refine nw (fun n => ?_))
  revert n; intro sn
  refine to_row sn (seenL_0 s) ?_
  refine loop_rule [11] (fun vs M m => ∃ i : Nat, vs = [.int .i64 i] ∧ i ≤ 8 ∧ (∀ j, j < i → okR N s j) ∧ m = 8 - i ∧ M = [⟨sn, .row (seenL s i) 262⟩, tB r N s]) rfl ?_ ?_
  · exact fin_all ⟨_, 0, rfl, by omega, fun j hj => absurd hj (by omega), rfl, rfl⟩
  rintro vs junk M' m ⟨i, rfl, hi, hok, rfl, rfl⟩
  by_cases hi8 : i < 8
  · by_cases hg : (s i).g < 0
    · have hsn := seenL_neg hg
      repeat' ((conv => whnf); first
          | (refine nv (fun z hz => ?_); (try simp at hz); replace hz := hz.symm; subst hz)
          | refine part_of' (l := rl 8 s) (q := i * 10) (m := 10) (r := sc (s i)) (rl_part (by omega)) rfl (by omega) ?_
          | refine draw_quiet rfl (by kernel_rfl) ?_
          | refine qldN_lit ?_
          | refine qcall_val free ?_
          | (refine qagg_neq kSl (by decide) rfl rfl rfl rfl (by kernel_rfl) (fSl _) (fSl freeS) ?_)
          | refine ld1_lit ?_
          | refine nw (fun n => ?_)
          | refine st_lit rfl ?_
          | refine need (by first | rfl | omega) ?_
          | (refine wr (fun z hz => ?_); (try rw [Int.tdiv_eq_ediv_of_nonneg (by omega)] at hz); rw [w64 (by omega) (by omega)] at hz; subst hz)
          | (refine ifs (fun h => ?_) (fun h => ?_) <;> (try (exfalso; first | omega | with_reducible contradiction | with_reducible exact h rfl))))
      all_goals (conv => whnf)
      · exact ⟨rfl, fin_pick (A' := [⟨_, .row (seenL s i) 262⟩, tB r N s]) (.cons (by first | exact .here | exact .there .here | exact .there (.there .here) | exact .there (.there (.there .here)) | exact .there (.there (.there (.there .here))) | exact .there (.there (.there (.there (.there .here)))) | exact .there (.there (.there (.there (.there (.there .here)))))) (.cons (by first | exact .here | exact .there .here | exact .there (.there .here) | exact .there (.there (.there .here)) | exact .there (.there (.there (.there .here))) | exact .there (.there (.there (.there (.there .here)))) | exact .there (.there (.there (.there (.there (.there .here)))))) .nil)) ⟨8 - (i + 1), by omega, i + 1, rfl, by omega, fun j hj => by (by_cases e : j < i; exact hok j e; (obtain rfl : j = i := by omega); exact ⟨fun _ => by assumption, fun h => absurd hg (by omega)⟩), rfl, by rw [hsn]⟩⟩
      · exact fin_riF (.cons (by first | exact .here | exact .there .here | exact .there (.there .here) | exact .there (.there (.there .here)) | exact .there (.there (.there (.there .here))) | exact .there (.there (.there (.there (.there .here)))) | exact .there (.there (.there (.there (.there (.there .here)))))) .nil) hi8 (fun h => absurd (h.1 hg) (by assumption))
    · have hsl : (s i).g < 16 → (seenL s i)[(s i).g.toNat]? = some (.bool (seenB s i (s i).g)) := fun h => by
        rw [seenL_at (by omega), show (((s i).g.toNat : Nat) : Int) = (s i).g by omega]
      rcases hsb : seenB s i (s i).g with _ | _
      all_goals rw [hsb] at hsl
      all_goals repeat' ((conv => whnf); first
          | (refine nv (fun z hz => ?_); (try simp at hz); replace hz := hz.symm; subst hz)
          | refine part_of' (l := rl 8 s) (q := i * 10) (m := 10) (r := sc (s i)) (rl_part (by omega)) rfl (by omega) ?_
          | refine ld1_row (tc_0 _ _) ?_
          | refine ld1_row (hsl (by omega)) ?_
          | refine st_seen (by omega) (by omega) ?_
          | refine ld1_lit ?_
          | refine nw (fun n => ?_)
          | refine st_lit rfl ?_
          | refine need (by first | rfl | omega) ?_
          | (refine ifs (fun h => ?_) (fun h => ?_) <;> (try (exfalso; first | omega | with_reducible contradiction | with_reducible exact h rfl))))
      all_goals (conv => whnf)
      all_goals try exact fin_riF (.cons (by first | exact .here | exact .there .here | exact .there (.there .here) | exact .there (.there (.there .here)) | exact .there (.there (.there (.there .here))) | exact .there (.there (.there (.there (.there .here)))) | exact .there (.there (.there (.there (.there (.there .here)))))) .nil) hi8 (fun h => by
        have h2 := h.2 (by omega)
        first | omega | (obtain ⟨a, ha, he⟩ := seenB_t.1 hsb; exact h2.2.2.1 a ha he))
      have hsf := seenB_f hsb
      obtain ⟨gx, ev⟩ : ∃ x, x = (s i).g := ⟨_, rfl⟩
      obtain ⟨lx, el⟩ : ∃ x, x = (s i).lv := ⟨_, rfl⟩
      obtain ⟨v0, ev0⟩ : ∃ x, x = (s i).v 0 := ⟨_, rfl⟩
      obtain ⟨d0, ed0⟩ : ∃ x, x = (s i).d 0 := ⟨_, rfl⟩
      obtain ⟨v1, ev1⟩ : ∃ x, x = (s i).v 1 := ⟨_, rfl⟩
      obtain ⟨d1, ed1⟩ : ∃ x, x = (s i).d 1 := ⟨_, rfl⟩
      obtain ⟨v2, ev2⟩ : ∃ x, x = (s i).v 2 := ⟨_, rfl⟩
      obtain ⟨d2, ed2⟩ : ∃ x, x = (s i).d 2 := ⟨_, rfl⟩
      obtain ⟨v3, ev3⟩ : ∃ x, x = (s i).v 3 := ⟨_, rfl⟩
      obtain ⟨d3, ed3⟩ : ∃ x, x = (s i).d 3 := ⟨_, rfl⟩
      refine loop_rule [48] (fun vs M m => ∃ k : Nat, vs = [.int .i64 k] ∧ k ≤ 4 ∧ (∀ p, p < k → (s i).d p = true → (s i).v p = true) ∧ m = 4 - k ∧ M = [⟨n, .cells [.int .i64 gx, .bool v0, .bool v1, .bool v2, .bool v3, .bool d0, .bool d1, .bool d2, .bool d3, .int .i64 lx] 66⟩, ⟨sn, .row (seenL s (i + 1)) 262⟩, tB r N s]) rfl ?_ ?_
      · exact fin_all ⟨_, 0, rfl, by omega, fun p hp => absurd hp (by omega), rfl, by rw [ev, el, ev0, ev1, ev2, ev3, ed0, ed1, ed2, ed3]⟩
      rintro vs junk1 M' m ⟨k, rfl, hk, hdv, rfl, rfl⟩
      have hcase : k = 0 ∨ k = 1 ∨ k = 2 ∨ k = 3 ∨ k = 4 := by omega
      rcases hcase with rfl | rfl | rfl | rfl | rfl
      · rcases d0 with _ | _
        · repeat' ((conv => whnf); first
            | (refine nv (fun z hz => ?_); (try simp at hz); replace hz := hz.symm; subst hz)
            | refine ld1_lit ?_
            | refine need (by first | rfl | omega) ?_
            | (refine wr (fun z hz => ?_); (try rw [Int.tdiv_eq_ediv_of_nonneg (by omega)] at hz); rw [w64 (by omega) (by omega)] at hz; subst hz)
            | (refine ifs (fun h => ?_) (fun h => ?_) <;> (try (exfalso; first | omega | with_reducible contradiction | with_reducible exact h rfl))))
          all_goals (conv => whnf)
          all_goals exact ⟨rfl, fin_all ⟨4 - 1, by omega, 1, rfl, by omega, fun p hp hpd => by (by_cases e : p < 0; exact hdv p e hpd; (obtain rfl : p = 0 := by omega); rw [← ed0] at hpd; cases hpd), rfl, rfl⟩⟩
        · rcases v0 with _ | _
          all_goals repeat' ((conv => whnf); first
              | (refine nv (fun z hz => ?_); (try simp at hz); replace hz := hz.symm; subst hz)
              | refine ld1_lit ?_
              | refine need (by first | rfl | omega) ?_
              | (refine wr (fun z hz => ?_); (try rw [Int.tdiv_eq_ediv_of_nonneg (by omega)] at hz); rw [w64 (by omega) (by omega)] at hz; subst hz)
              | (refine ifs (fun h => ?_) (fun h => ?_) <;> (try (exfalso; first | omega | with_reducible contradiction | with_reducible exact h rfl))))
          all_goals (conv => whnf)
          · exact fin_riF (.cons (by first | exact .here | exact .there .here | exact .there (.there .here) | exact .there (.there (.there .here)) | exact .there (.there (.there (.there .here))) | exact .there (.there (.there (.there (.there .here)))) | exact .there (.there (.there (.there (.there (.there .here)))))) .nil) hi8 (fun h => by have := (h.2 (by omega)).2.2.2.2 0 (by omega) ed0.symm; rw [← ev0] at this; cases this)
          · exact ⟨rfl, fin_all ⟨4 - 1, by omega, 1, rfl, by omega, fun p hp hpd => by (by_cases e : p < 0; exact hdv p e hpd; (obtain rfl : p = 0 := by omega); exact ev0.symm), rfl, rfl⟩⟩
      · rcases d1 with _ | _
        · repeat' ((conv => whnf); first
            | (refine nv (fun z hz => ?_); (try simp at hz); replace hz := hz.symm; subst hz)
            | refine ld1_lit ?_
            | refine need (by first | rfl | omega) ?_
            | (refine wr (fun z hz => ?_); (try rw [Int.tdiv_eq_ediv_of_nonneg (by omega)] at hz); rw [w64 (by omega) (by omega)] at hz; subst hz)
            | (refine ifs (fun h => ?_) (fun h => ?_) <;> (try (exfalso; first | omega | with_reducible contradiction | with_reducible exact h rfl))))
          all_goals (conv => whnf)
          all_goals exact ⟨rfl, fin_all ⟨4 - 2, by omega, 2, rfl, by omega, fun p hp hpd => by (by_cases e : p < 1; exact hdv p e hpd; (obtain rfl : p = 1 := by omega); rw [← ed1] at hpd; cases hpd), rfl, rfl⟩⟩
        · rcases v1 with _ | _
          all_goals repeat' ((conv => whnf); first
              | (refine nv (fun z hz => ?_); (try simp at hz); replace hz := hz.symm; subst hz)
              | refine ld1_lit ?_
              | refine need (by first | rfl | omega) ?_
              | (refine wr (fun z hz => ?_); (try rw [Int.tdiv_eq_ediv_of_nonneg (by omega)] at hz); rw [w64 (by omega) (by omega)] at hz; subst hz)
              | (refine ifs (fun h => ?_) (fun h => ?_) <;> (try (exfalso; first | omega | with_reducible contradiction | with_reducible exact h rfl))))
          all_goals (conv => whnf)
          · exact fin_riF (.cons (by first | exact .here | exact .there .here | exact .there (.there .here) | exact .there (.there (.there .here)) | exact .there (.there (.there (.there .here))) | exact .there (.there (.there (.there (.there .here)))) | exact .there (.there (.there (.there (.there (.there .here)))))) .nil) hi8 (fun h => by have := (h.2 (by omega)).2.2.2.2 1 (by omega) ed1.symm; rw [← ev1] at this; cases this)
          · exact ⟨rfl, fin_all ⟨4 - 2, by omega, 2, rfl, by omega, fun p hp hpd => by (by_cases e : p < 1; exact hdv p e hpd; (obtain rfl : p = 1 := by omega); exact ev1.symm), rfl, rfl⟩⟩
      · rcases d2 with _ | _
        · repeat' ((conv => whnf); first
            | (refine nv (fun z hz => ?_); (try simp at hz); replace hz := hz.symm; subst hz)
            | refine ld1_lit ?_
            | refine need (by first | rfl | omega) ?_
            | (refine wr (fun z hz => ?_); (try rw [Int.tdiv_eq_ediv_of_nonneg (by omega)] at hz); rw [w64 (by omega) (by omega)] at hz; subst hz)
            | (refine ifs (fun h => ?_) (fun h => ?_) <;> (try (exfalso; first | omega | with_reducible contradiction | with_reducible exact h rfl))))
          all_goals (conv => whnf)
          all_goals exact ⟨rfl, fin_all ⟨4 - 3, by omega, 3, rfl, by omega, fun p hp hpd => by (by_cases e : p < 2; exact hdv p e hpd; (obtain rfl : p = 2 := by omega); rw [← ed2] at hpd; cases hpd), rfl, rfl⟩⟩
        · rcases v2 with _ | _
          all_goals repeat' ((conv => whnf); first
              | (refine nv (fun z hz => ?_); (try simp at hz); replace hz := hz.symm; subst hz)
              | refine ld1_lit ?_
              | refine need (by first | rfl | omega) ?_
              | (refine wr (fun z hz => ?_); (try rw [Int.tdiv_eq_ediv_of_nonneg (by omega)] at hz); rw [w64 (by omega) (by omega)] at hz; subst hz)
              | (refine ifs (fun h => ?_) (fun h => ?_) <;> (try (exfalso; first | omega | with_reducible contradiction | with_reducible exact h rfl))))
          all_goals (conv => whnf)
          · exact fin_riF (.cons (by first | exact .here | exact .there .here | exact .there (.there .here) | exact .there (.there (.there .here)) | exact .there (.there (.there (.there .here))) | exact .there (.there (.there (.there (.there .here)))) | exact .there (.there (.there (.there (.there (.there .here)))))) .nil) hi8 (fun h => by have := (h.2 (by omega)).2.2.2.2 2 (by omega) ed2.symm; rw [← ev2] at this; cases this)
          · exact ⟨rfl, fin_all ⟨4 - 3, by omega, 3, rfl, by omega, fun p hp hpd => by (by_cases e : p < 2; exact hdv p e hpd; (obtain rfl : p = 2 := by omega); exact ev2.symm), rfl, rfl⟩⟩
      · rcases d3 with _ | _
        · repeat' ((conv => whnf); first
            | (refine nv (fun z hz => ?_); (try simp at hz); replace hz := hz.symm; subst hz)
            | refine ld1_lit ?_
            | refine need (by first | rfl | omega) ?_
            | (refine wr (fun z hz => ?_); (try rw [Int.tdiv_eq_ediv_of_nonneg (by omega)] at hz); rw [w64 (by omega) (by omega)] at hz; subst hz)
            | (refine ifs (fun h => ?_) (fun h => ?_) <;> (try (exfalso; first | omega | with_reducible contradiction | with_reducible exact h rfl))))
          all_goals (conv => whnf)
          all_goals exact ⟨rfl, fin_all ⟨4 - 4, by omega, 4, rfl, by omega, fun p hp hpd => by (by_cases e : p < 3; exact hdv p e hpd; (obtain rfl : p = 3 := by omega); rw [← ed3] at hpd; cases hpd), rfl, rfl⟩⟩
        · rcases v3 with _ | _
          all_goals repeat' ((conv => whnf); first
              | (refine nv (fun z hz => ?_); (try simp at hz); replace hz := hz.symm; subst hz)
              | refine ld1_lit ?_
              | refine need (by first | rfl | omega) ?_
              | (refine wr (fun z hz => ?_); (try rw [Int.tdiv_eq_ediv_of_nonneg (by omega)] at hz); rw [w64 (by omega) (by omega)] at hz; subst hz)
              | (refine ifs (fun h => ?_) (fun h => ?_) <;> (try (exfalso; first | omega | with_reducible contradiction | with_reducible exact h rfl))))
          all_goals (conv => whnf)
          · exact fin_riF (.cons (by first | exact .here | exact .there .here | exact .there (.there .here) | exact .there (.there (.there .here)) | exact .there (.there (.there (.there .here))) | exact .there (.there (.there (.there (.there .here)))) | exact .there (.there (.there (.there (.there (.there .here)))))) .nil) hi8 (fun h => by have := (h.2 (by omega)).2.2.2.2 3 (by omega) ed3.symm; rw [← ev3] at this; cases this)
          · exact ⟨rfl, fin_all ⟨4 - 4, by omega, 4, rfl, by omega, fun p hp hpd => by (by_cases e : p < 3; exact hdv p e hpd; (obtain rfl : p = 3 := by omega); exact ev3.symm), rfl, rfl⟩⟩
      · repeat' ((conv => whnf); first
          | (refine wr (fun z hz => ?_); (try rw [Int.tdiv_eq_ediv_of_nonneg (by omega)] at hz); rw [w64 (by omega) (by omega)] at hz; subst hz)
          | (refine ifs (fun h => ?_) (fun h => ?_) <;> (try (exfalso; first | omega | with_reducible contradiction | with_reducible exact h rfl))))
        all_goals (conv => whnf)
        exact ⟨rfl, fin_pick (A' := [⟨_, .row (seenL s (i + 1)) 262⟩, tB r N s]) (.cons (by first | exact .here | exact .there .here | exact .there (.there .here) | exact .there (.there (.there .here)) | exact .there (.there (.there (.there .here))) | exact .there (.there (.there (.there (.there .here)))) | exact .there (.there (.there (.there (.there (.there .here)))))) (.cons (by first | exact .here | exact .there .here | exact .there (.there .here) | exact .there (.there (.there .here)) | exact .there (.there (.there (.there .here))) | exact .there (.there (.there (.there (.there .here)))) | exact .there (.there (.there (.there (.there (.there .here)))))) .nil)) ⟨8 - (i + 1), by omega, i + 1, rfl, by omega, fun j hj => by (by_cases e : j < i; exact hok j e; (obtain rfl : j = i := by omega); exact ⟨fun h => absurd h hg, fun h => ⟨by omega, by omega, hsf, by omega, hdv⟩⟩), rfl, rfl⟩⟩
  · obtain rfl : i = 8 := by omega
    repeat' ((conv => whnf); first
        | exact fin_pick (.cons (.there .here) .nil) ⟨rfl, true, rfl, ⟨fun _ => hok, fun _ => rfl⟩⟩
        | (refine ifs (fun h => ?_) (fun h => ?_) <;> (try (exfalso; first | omega | with_reducible contradiction | with_reducible exact h rfl))))
end Go.Proofs.YtkjamonkohpcnaaGreat.Slots
/- slots.Read and the document's. -/
namespace Go.Proofs.YtkjamonkohpcnaaGreat.Slots
open Go Ev Be
set_option linter.unusedVariables false
set_option linter.unusedSimpArgs false
set_option maxRecDepth 100000
def mixS (c : By) (i : Nat) : Nat → Sl10 := fun j => if j < i then slB c j else freeS
theorem mix_next (c : By) (i : Nat) : upd (mixS c i) i (slB c i) = mixS c (i + 1) := by
  funext j
  unfold upd mixS
  by_cases h : j = i
  · rw [if_pos h, if_pos (by omega), h]
  · rw [if_neg h]
    by_cases h2 : j < i
    · rw [if_pos h2, if_pos (by omega)]
    · rw [if_neg h2, if_neg (by omega)]
theorem mix_0 (c : By) : mixS c 0 = fun _ => freeS := by funext j; unfold mixS; rw [if_neg (by omega)]
theorem mix_8 (c : By) (N : Int) : tc N (mixS c 8) = tc N (slB c) := tc_congr fun j hj => by unfold mixS; rw [if_pos hj]
theorem st_mix {P : Program} {M : List Blk} {r i : Nat} {N : Int} {c : By} {T : TypeId} {f : Blk → List Blk} {K : List Blk → Prop} [z : Zip M r (.row (tc N (mixS c i)) T) f] (hi : i < 8) (hk : K (f ⟨r, .row (tc N (mixS c (i + 1))) T⟩)) : StN P M r (1 + i * 10) (sc (slB c i)) K :=
  st_slot (slB c i) hi (by rw [mix_next]; exact hk)
def RdQ (c : By) (q : Nat) : Ending → List Blk → Prop := fun e A => (RA c q ∧ ∃ r, e = .returned (.tuple #[pt r, .int .i64 0]) ∧ A = [tB r q (slB c)]) ∨ (¬ RA c q ∧ e = .returned (.tuple #[.pointer none, .int .i64 6]) ∧ A = [])
theorem right_ok {c : By} {q : Nat} (h : Right q (slB c)) : ∀ j, j < 8 → okS (slB c j) := by
  intro j hj
  have hG := right_good h
  have hs := (hG.2.1 j hj)
  obtain ⟨e1, e2, e3, e4⟩ := sc_parts (cut_same (right_rest h) j hj)
  unfold okS at hs ⊢
  omega
attribute [local irreducible] rl tc bu biX rowI rowE rowS padE padS by1 pw full sBy cnt bt seenB seenL slB mixS S48 convert Builtin.copy_ Builtin.append_ Instr.makeSlice
theorem fin_rdF {M : List Blk} {c : By} {q : Nat} (h : ¬ RA c q) : Ev.Fin M (RdQ c q (.returned (oneOrMany [.pointer none, .int .i64 6]))) := fin_nil (.inr ⟨h, rfl, rfl⟩)
theorem slot_at (c : By) (i : Nat) : Fnc Tryz.prog 129 [.string (S4 c i)] [] (Ret (.agg (sc (slB c i)).toArray) []) := by
  have := slot_of (c (4 * i)) (c (4 * i + 1)) (c (4 * i + 2)) (c (4 * i + 3))
  unfold S4 slB
  exact this
set_option maxHeartbeats 4000000 in
theorem read_ (c : By) (q : Nat) (hq1 : 1 ≤ q) (hq8 : q ≤ 8) : Fnc Tryz.prog 63 [.int .i64 q, .string (S48 c)] [] (RdQ c q) := by
  have hsz := S48_size c
  refine fn_intro Tryz.func63 (by kernel_rfl) ?_
  repeat' ((conv => whnf); first
      | (refine call_fn (new_in q hq1 hq8) .nil (fun e A' hq => ?_); obtain ⟨r, h1, h2⟩ := hq; subst h1; rw [tB_free, ← mix_0 c] at h2; subst h2)
      | refine loop_rule [23] (fun vs M m => ∃ i : Nat, vs = [.int .i64 i] ∧ i ≤ 8 ∧ m = 8 - i ∧ M = [tB r q (mixS c i)]) rfl ?_ ?_
      | (refine ifs (fun h => ?_) (fun h => ?_) <;> (try (exfalso; first | omega | with_reducible contradiction | with_reducible exact h rfl))))
  · exact fin_all ⟨_, 0, rfl, by omega, rfl, rfl⟩
  rintro vs junk M' m ⟨i, rfl, hi, rfl, rfl⟩
  by_cases hi8 : i < 8
  · have hext := S48_ext c (i := i) (by omega)
    repeat' ((conv => whnf); first
        | refine draw_any 10 [(0, true), (1, true), (2, true), (3, true), (4, true), (5, true), (6, true), (7, true), (8, true), (9, true), (11, true), (12, true), (10, false), (13, true), (14, false)] [] rfl (by kernel_rfl) ?_
        | refine kept_nil ?_
        | (refine sv (fun z hz => ?_); rw [show (4 * (i : Int)).toNat = 4 * i by omega, show (4 * ((i : Int) + 1)).toNat = 4 * (i + 1) by omega, hext] at hz; subst hz)
        | refine call_val (slot_at c i) ?_
        | (refine nv (fun z hz => ?_); (try simp at hz); replace hz := hz.symm; subst hz)
        | refine st_mix (by omega) ?_
        | refine need (by first | rfl | omega) ?_
        | (refine wr (fun z hz => ?_); (try rw [Int.tdiv_eq_ediv_of_nonneg (by omega)] at hz); rw [w64 (by omega) (by omega)] at hz; subst hz)
        | (refine ifs (fun h => ?_) (fun h => ?_) <;> (try (exfalso; first | omega | with_reducible contradiction | with_reducible exact h rfl))))
    all_goals (conv => whnf)
    exact ⟨rfl, fin_all ⟨8 - (i + 1), by omega, i + 1, rfl, by omega, rfl, rfl⟩⟩
  · obtain rfl : i = 8 := by omega
    rw [show tB r q (mixS c 8) = tB r q (slB c) by unfold tB; rw [mix_8]]
    repeat' ((conv => whnf); first
        | (refine call_fn (right r q (slB c)) (.cons (by first | exact .here | exact .there .here | exact .there (.there .here) | exact .there (.there (.there .here)) | exact .there (.there (.there (.there .here))) | exact .there (.there (.there (.there (.there .here)))) | exact .there (.there (.there (.there (.there (.there .here)))))) .nil) (fun e A' hq => ?_); obtain ⟨rfl, b, rfl, hb⟩ := hq; rcases b with _ | _)
        | refine call_ret (bytes r q (slB c) (right_ok (hb.1 rfl))) (.cons (by first | exact .here | exact .there .here | exact .there (.there .here) | exact .there (.there (.there .here)) | exact .there (.there (.there (.there .here))) | exact .there (.there (.there (.there (.there .here)))) | exact .there (.there (.there (.there (.there (.there .here)))))) .nil) ?_
        | (refine ifs (fun h => ?_) (fun h => ?_) <;> (try (exfalso; first | omega | with_reducible contradiction | with_reducible exact h rfl))))
    all_goals (conv => whnf)
    · exact fin_rdF fun h => by have := hb.2 h.1; cases this
    · exact fin_pick (.cons (by first | exact .here | exact .there .here | exact .there (.there .here) | exact .there (.there (.there .here)) | exact .there (.there (.there (.there .here))) | exact .there (.there (.there (.there (.there .here)))) | exact .there (.there (.there (.there (.there (.there .here)))))) .nil) (.inl ⟨⟨hb.1 rfl, by assumption⟩, r, rfl, rfl⟩)
    · exact fin_rdF fun h => absurd h.2 (by assumption)
end Go.Proofs.YtkjamonkohpcnaaGreat.Slots
/- The table of slots kept in a vault. -/
namespace Go.Proofs.YtkjamonkohpcnaaGreat.Mt
open Go Ev Sha Aes Orc Node Rec Chn Jrn Cau Sto Ivs Ctr Aut Stg Bgn Wld
open Rig (Fnc_takeR RigP Rg rgM z64 app_of RigA)
open Tree (TreP TreA Tre treM TI Same updB)
open Slots (By S48 RdQ RA tB slB sBy okS busyB cnt Sl10)
set_option linter.unusedVariables false
set_option linter.unusedSimpArgs false
set_option maxRecDepth 100000
variable {a : RigA} {A : StoA} {B : VA} {on : Nat} {S : Sy} {f0 f1 : Nat → ByteArray} {m b : Nat}
theorem rg_at (x : RgV) : (regC x)[72]? = some (.bool x.at_) := rfl
theorem rg_dy (x : RgV) : (regC x)[70]? = some (.int .i64 x.dirty) := rfl
attribute [local irreducible] dgV D jC wrF rcC stC regC RgV.lay rgM syM S48 sBy RA
theorem att_ (h : WI a A on S f0 f1 m b) : Fnc Tryz.prog 62 [pt B.vn] (syM a A B S) (Ret (.int .i64 0) (syM a A B S)) := by
  have h1 := w_store (a := a) (A := A) (B := B) (S := S)
  have h2 := w_reg (a := a) (A := A) (B := B) (S := S)
  have hat := h.vok.att
  refine fn_intro Tryz.func62 (by kernel_rfl) ?_
  repeat' ((conv => whnf); first
      | refine call_gr h1 (.one takeE) ?_
      | refine call_gr h2 (.one takeE) ?_
      | refine getOK_of (v := .bool true) (by rw [← hat]; exact rg_at _) ?_)
  all_goals (conv => whnf)
  all_goals exact fin_g (A := syM a A B S) (.one takeE) ⟨rfl, rfl⟩
/-- The table of the register and of slots: what is loaded. -/
def LdQ (c : By) (q : Nat) (dirty : Int) : Prop := RA c q ∧ (cnt (fun j => busyB (slB c j)) 8 : Int) = dirty
abbrev cSt (c sn : Nat) : Blk := ⟨c, .cells [pt sn] 37⟩
abbrev cTx (c : Nat) (s : ByteArray) : Blk := ⟨c, .cells [.string s] 9⟩
abbrev cRg (c : Nat) (y : RgV) : Blk := ⟨c, .row (regC y) 34⟩
theorem read_in (c : By) (q : Nat) (hq : 1 ≤ q ∧ q ≤ 8) (hr : RA c q) : Fnc Tryz.prog 63 [.int .i64 q, .string (S48 c)] [] (fun e A => ∃ r, e = .returned (.tuple #[pt r, .int .i64 0]) ∧ A = [tB r q (slB c)]) :=
  Fnc_mono (Slots.read_ c q hq.1 hq.2) fun e A h => by
    rcases h with ⟨_, h⟩ | ⟨h, _⟩
    · exact h
    · exact absurd hr h
set_option maxHeartbeats 2000000 in
theorem right_ok (b8 b11 b12 : Nat) (y : RgV) (c : By) (q : Nat) (hq : 1 ≤ q ∧ q ≤ 8) (hg : S.V.g1 = q) (hr : RA c q) (hy : y.ok) :
    Fnc Tryz.prog 83 [pt b8, pt b11, pt b12] (cSt b8 A.sn :: cTx b11 (S48 c) :: cRg b12 y :: syM a A B S) (Ret (.bool true) (cSt b8 A.sn :: cTx b11 (S48 c) :: cRg b12 y :: syM a A B S)) := by
  have h3 := w_geom (a := a) (A := A) (B := B) (S := S)
  have h4 := read_in c q hq hr
  have h5 := rcheck_ok y hy
  refine fn_intro Tryz.func83 (by kernel_rfl) ?_
  repeat' ((conv => whnf); first
      | refine draw_any 1 [(0, true), (3, true), (1, false), (2, true), (4, false), (5, true), (6, true), (7, true), (8, true), (9, true)] [cSt b8 A.sn, cTx b11 (S48 c)] rfl (by kernel_rfl) (kept_of (.cons takeC (.cons takeC .nil)) ?_)
      | refine kept_of (.cons takeC (.cons takeC .nil)) ?_
      | refine fld1 ?_
      | (refine call_gr h3 (.one takeE) ?_; rw [hg])
      | (refine call_g h4 .nil (fun e A' hq => ?_); obtain ⟨r, z1, z2⟩ := hq; subst z1; subst z2)
      | refine ldN_whole (n := b12) (regC_len _) ?_
      | refine call_val h5 ?_
      | (refine ifs (fun h => ?_) (fun h => ?_) <;> (try (exfalso; first | omega | with_reducible contradiction | with_reducible exact h rfl))))
  all_goals (conv => whnf)
  all_goals exact fin_g (A := cSt b8 A.sn :: cTx b11 (S48 c) :: cRg b12 y :: syM a A B S) (.blk takeC (.blk takeC (.blk takeC (.one takeE)))) ⟨rfl, rfl⟩
set_option maxHeartbeats 2000000 in
theorem right_no (b8 b11 b12 : Nat) (y : RgV) (c : By) (q : Nat) (hq : 1 ≤ q ∧ q ≤ 8) (hg : S.V.g1 = q) (hr : RA c q) (hy : ¬ y.ok) :
    Fnc Tryz.prog 83 [pt b8, pt b11, pt b12] (cSt b8 A.sn :: cTx b11 (S48 c) :: cRg b12 y :: syM a A B S) (Ret (.bool false) (cSt b8 A.sn :: cTx b11 (S48 c) :: cRg b12 y :: syM a A B S)) := by
  have h3 := w_geom (a := a) (A := A) (B := B) (S := S)
  have h4 := read_in c q hq hr
  have h5 := rcheck_no y hy
  refine fn_intro Tryz.func83 (by kernel_rfl) ?_
  repeat' ((conv => whnf); first
      | refine draw_any 1 [(0, true), (3, true), (1, false), (2, true), (4, false), (5, true), (6, true), (7, true), (8, true), (9, true)] [cSt b8 A.sn, cTx b11 (S48 c)] rfl (by kernel_rfl) (kept_of (.cons takeC (.cons takeC .nil)) ?_)
      | refine kept_of (.cons takeC (.cons takeC .nil)) ?_
      | refine fld1 ?_
      | (refine call_gr h3 (.one takeE) ?_; rw [hg])
      | (refine call_g h4 .nil (fun e A' hq => ?_); obtain ⟨r, z1, z2⟩ := hq; subst z1; subst z2)
      | refine ldN_whole (n := b12) (regC_len _) ?_
      | refine call_val h5 ?_
      | (refine ifs (fun h => ?_) (fun h => ?_) <;> (try (exfalso; first | omega | with_reducible contradiction | with_reducible exact h rfl))))
  all_goals (conv => whnf)
  all_goals exact fin_g (A := cSt b8 A.sn :: cTx b11 (S48 c) :: cRg b12 y :: syM a A B S) (.blk takeC (.blk takeC (.blk takeC (.one takeE)))) ⟨rfl, rfl⟩
end Go.Proofs.YtkjamonkohpcnaaGreat.Mt
/- The table of slots kept in a vault: saved. -/
namespace Go.Proofs.YtkjamonkohpcnaaGreat.Mt
open Go Ev Sha Aes Orc Node Rec Chn Jrn Cau Sto Ivs Ctr Aut Stg Bgn Wld
open Rig (Fnc_takeR RigP Rg rgM z64 app_of RigA)
open Tree (TreP TreA Tre treM TI Same updB)
open Slots (By S48 RdQ RA tB slB sBy okS busyB cnt Sl10)
set_option linter.unusedVariables false
set_option linter.unusedSimpArgs false
set_option maxRecDepth 100000
variable {a : RigA} {A : StoA} {B : VA} {on : Nat} {S : Sy} {f0 f1 : Nat → ByteArray} {m b : Nat}
def dirtyN (s : Nat → Sl10) : Int := (cnt (fun j => busyB (s j)) 8 : Nat)
attribute [local irreducible] dgV D jC wrF rcC stC regC RgV.lay rgM syM S48 sBy RA
end Go.Proofs.YtkjamonkohpcnaaGreat.Mt
/- Layer 23: what is begun. -/
namespace Go.Proofs.YtkjamonkohpcnaaGreat.Mt
open Go Ev Sha Aes Orc Node Rec Chn Jrn Cau Sto Ivs Ctr Aut Stg Bgn Wld Cmt
open Rig (Fnc_takeR RigP Rg rgM z64 app_of RigA r0)
open Tree (TreP TreA Tre treM TI Same updB)
set_option linter.unusedVariables false
set_option linter.unusedSimpArgs false
set_option maxRecDepth 100000
noncomputable def supN (n : Int) : ByteArray := Geom.supS 64 n 1099511627776 z32
theorem rightN {n : Int} (h : 1 ≤ n ∧ n ≤ 8) : Geom.Right 64 n 1099511627776 := by
  unfold Geom.Right
  omega
theorem new_fmN (s : Sto) {rn on : Nat} {n : Int} {super : ByteArray} (hV : s.V = fmV0 rn on 64 n 1099511627776 super) :
    Fnc Tryz.prog 38 [pt s.A.sn, .string z32] [stB s.A.sn s.c] (fun e A => ∃ B : VA, e = .returned (.tuple #[pt B.vn, .int .i64 0]) ∧ A = vM B s.A.sn ⟨keyT z32, ⟨0, 0, 1099511627776⟩, 0⟩ ++ [stB s.A.sn s.c]) := by
  have h1 := new_ok s.A.sn s.c z32 rfl (by
    unfold Sto.c; rw [hV]; exact ⟨(by decide : (1 : Int) ≤ 1099511627776), Int.le_refl _, Int.le_refl _, (by decide : (0 : Int) ≤ 1099511627776)⟩)
  rw [show s.c.is.iv = 0 by unfold Sto.c; rw [hV]; rfl, show s.c.g2 = 1099511627776 by unfold Sto.c; rw [hV]; rfl] at h1
  exact h1
attribute [local irreducible] stoR Sto.c rgM r0 srF RgV.lay fmR fmT fmV keyT z32 supN fmV0
set_option maxHeartbeats 4000000 in
theorem begunN (n : Int) (h_ : 1 ≤ n ∧ n ≤ 8) :
    Fnc Tryz.prog 17 [.int .i64 n] [] (fun e M => ∃ (a : RigA) (A : StoA) (B : VA) (S : Sy), WJ a A S.o.on S (fun _ => z64) (fun _ => z64) 0 2100 0 ∧ S.r = fmR r0 (supN n) ∧ S.V = fmV0 a.rn S.o.on 64 n 1099511627776 (supN n) ∧ S.v = ⟨keyT z32, ⟨0, 0, 1099511627776⟩, 0⟩ ∧ e = .returned (.tuple #[pt B.vn, pt a.rn, pt S.o.on]) ∧
      M = syM a A B S) := by
  have hf : ∀ (a : RigA) (o : Orc), o.ts = [] → Fnc Tryz.prog 42 [pt a.rn, pt o.on, .agg #[.int .i64 64, .int .i64 n, .int .i64 1099511627776], .string z32] (rgM ⟨a, r0⟩ ++ orcM o)
      (fun e A => ∃ (s : Sto) (o' : Orc), o'.on = o.on ∧ o'.ts = fmT o.ts (supN n) ∧ s.V = fmV0 a.rn o.on 64 n 1099511627776 (supN n) ∧ SOk s a.rn o.on ∧ e = .returned (.tuple #[pt s.A.sn, .int .i64 0]) ∧
        A = rgM ⟨a, fmR r0 (supN n)⟩ ++ (orcM o' ++ (stB s.A.sn s.c :: stoR s))) := fun a o ho => by
    have h := format_ ⟨a, r0⟩ o 64 n 1099511627776 z32 fine_0 (rightN h_) (by unfold z32; rfl) (by rw [ho]; decide)
    rw [show Geom.supS 64 n 1099511627776 z32 = supN n by unfold supN; rfl] at h
    unfold stoM at h
    exact h
  have hz64 : (supN n).size = 64 := by unfold supN; unfold Geom.supS; rw [ByteArray.size_append]; unfold z32; rfl
  refine fn_intro Tryz.func17 (by kernel_rfl) ?_
  repeat' ((conv => whnf); first
      | (refine call_g rnew' .nil (fun e A' hq => ?_); obtain ⟨a, a1, a2⟩ := hq; subst a1; subst a2)
      | (refine call_g onew .nil (fun e A' hq => ?_); obtain ⟨o, b1, b2, b3⟩ := hq; subst b2; subst b3)
      | refine call_val z32_' ?_
      | (refine call_g (hf a o b1) (.grp takeG (.one takeG)) (fun e A' hq => ?_); obtain ⟨s, o', c1, c2, c3, c4, c5, c6⟩ := hq; subst c5; subst c6)
      | (refine call_g (new_fmN s c3) (.blk takeC .nil) (fun e A' hq => ?_); obtain ⟨B, d1, d2⟩ := hq; subst d1; subst d2)
      | refine bld ?_
      | (refine ifs (fun h => ?_) (fun h => ?_) <;> (try (exfalso; first | omega | with_reducible contradiction | with_reducible exact h rfl))))
  all_goals (conv => whnf)
  obtain ⟨S, eS⟩ : ∃ S : Sy, S = ⟨fmR r0 (supN n), o', s.V, ⟨keyT z32, ⟨0, 0, 1099511627776⟩, 0⟩⟩ := ⟨_, rfl⟩
  have hsy : rgM ⟨a, fmR r0 (supN n)⟩ ++ (orcM o' ++ (stB s.A.sn s.c :: (stoR s ++ vM B s.A.sn ⟨keyT z32, ⟨0, 0, 1099511627776⟩, 0⟩))) = syM a s.A B S := by
    rw [eS]; unfold syM sysM; simp only [List.append_assoc, List.cons_append]
  have hso : S.o.on = o.on := by rw [eS]; exact c1
  rw [b1] at c2
  have hwj : WJ a s.A S.o.on S (fun _ => z64) (fun _ => z64) 0 2100 0 := by
    rw [hso, eS]
    have h1 := wj_new (k := keyT z32) (o := o') fine_0 c4 c3 c1 ⟨by decide, by decide⟩ (by8_keyT z32) hz64
    have h2 := fmT_len (supN n)
    exact { h1 with wi := WI.mono h1.wi (Nat.le_refl _) (by rw [c2]; omega) }
  exact fin_g (A := rgM ⟨a, fmR r0 (supN n)⟩ ++ (orcM o' ++ (stB s.A.sn _ :: (stoR s ++ vM B s.A.sn _)))) (.grp takeG (.grp takeG (.blk takeC (.grp takeG (.one takeG))))) ⟨a, s.A, B, S, hwj, by rw [eS], by rw [hso, eS]; exact c3, by rw [eS], by rw [hso]; rfl, hsy⟩
end Go.Proofs.YtkjamonkohpcnaaGreat.Mt
/- The table of slots kept in a vault: loaded and saved, with what holds through commits. -/
namespace Go.Proofs.YtkjamonkohpcnaaGreat.Mt
open Go Ev Sha Aes Orc Node Rec Chn Jrn Cau Sto Ivs Ctr Aut Stg Bgn Wld Cmt
open Rig (Fnc_takeR RigP Rg rgM z64 app_of RigA)
open Tree (TreP TreA Tre treM TI Same updB)
open Slots (By S48 RdQ RA tB slB sBy okS busyB cnt Sl10)
set_option linter.unusedVariables false
set_option linter.unusedSimpArgs false
set_option maxRecDepth 100000
variable {a : RigA} {A : StoA} {B : VA} {on : Nat} {S : Sy} {f0 f1 : Nat → ByteArray} {m b : Nat} {N : Int}
attribute [local irreducible] dgV D jC wrF rcC stC regC RgV.lay rgM syM S48 sBy RA
set_option maxHeartbeats 2000000 in
theorem loadJ (h : WJ a A on S f0 f1 m b N) (hf : FB f0 ∧ FB f1) (hb : b ≤ 1099511610000) (c : By) (q : Nat) (hq : 1 ≤ q ∧ q ≤ 8) (hg : S.V.g1 = q) (hc : dat S.v.k (f1 63) = S48 c) :
    Fnc Tryz.prog 24 [pt B.vn] (syM a A B S) (fun e M => ∃ S', (WJ a A on S' f0 f1 m (b + 7) N ∧ S'.v = S.v ∧ Sm S.V S'.V) ∧
      ((LdQ c q S.V.is.dirty ∧ ∃ r, e = .returned (.tuple #[pt r, .int .i64 0]) ∧ M = syM a A B S' ++ [tB r q (slB c)]) ∨ (¬ LdQ c q S.V.is.dirty ∧ e = .returned (.tuple #[.pointer none, .int .i64 12]) ∧ M = syM a A B S'))) := by
  have h0 := att_ (B := B) h.wi
  have h1 := fun S' => w_store (a := a) (A := A) (B := B) (S := S')
  have h2 := w_readJ (B := B) h hf (d := 1) (l := 63) (.inr rfl) (by omega) hb
  rw [fs_1, hc] at h2
  have h3 := fun S' => w_geom (a := a) (A := A) (B := B) (S := S')
  have h4 := Slots.read_ c q hq.1 hq.2
  have h5 := fun r => Slots.dirty r q (slB c)
  have h6 := fun S' => w_reg (a := a) (A := A) (B := B) (S := S')
  refine fn_intro Tryz.func24 (by kernel_rfl) ?_
  repeat' ((conv => whnf); first
      | refine call_gr h0 (.one takeE) ?_
      | (refine call_a h2 (.one takeE) (fun S1 hS1 => ?_); obtain ⟨hw1, hv1, hm1⟩ := hS1; have hg1 : S1.V.g1 = (q : Int) := hm1.g1.trans hg; have hd1 : S1.V.is = S.V.is := hm1.i)
      | (refine ifs (fun h => ?_) (fun h => ?_) <;> (try (exfalso; first | omega | with_reducible contradiction | with_reducible exact h rfl))))
  all_goals (conv => whnf)
  repeat' ((conv => whnf); first
      | refine call_gr (h1 S1) (.one takeE) ?_
      | (refine call_gr (h3 S1) (.one takeE) ?_; rw [hg1])
      | (refine call_g h4 .nil (fun e A' hq => ?_); obtain ⟨r1, r, z1, z2⟩ | ⟨r1, z1, z2⟩ := hq <;> subst z1 <;> subst z2)
      | refine call_gr (h5 _) (.blk takeC .nil) ?_
      | (refine call_gr (h6 S1) (.one takeE) ?_; rw [hd1])
      | refine getOK_of (v := .int .i64 S.V.is.dirty) (rg_dy _) ?_
      | (refine ifs (fun h => ?_) (fun h => ?_) <;> (try (exfalso; first | omega | with_reducible contradiction | with_reducible exact h rfl))))
  all_goals (conv => whnf)
  · exact fin_all ⟨S1, ⟨hw1, hv1, hm1⟩, .inl ⟨⟨r1, by assumption⟩, r, rfl, rfl⟩⟩
  · exact fin_g (A := syM a A B S1) (.one takeE) ⟨S1, ⟨hw1, hv1, hm1⟩, .inr ⟨fun hl => absurd hl.2 (by assumption), rfl, rfl⟩⟩
  · exact fin_g (A := syM a A B S1) (.one takeE) ⟨S1, ⟨hw1, hv1, hm1⟩, .inr ⟨fun hl => r1 hl.1, rfl, rfl⟩⟩
/-- What a save leaves. -/
def SvJ (a : RigA) (A : StoA) (on : Nat) (S : Sy) (f0 f1 : Nat → ByteArray) (m b : Nat) (N : Int) (c : By) (d md : Int) (S' : Sy) : Prop :=
  WJ a A on S' f0 (updB f1 63 (layB 0 2 (S48 c))) (m + 7) (b + 13) N ∧ S'.v = S.v ∧ S'.V.is = S.V.is ∧ S'.V.next = S.V.is.say d md ∧ S'.V.g0 = S.V.g0 ∧ S'.V.g1 = S.V.g1 ∧ S'.V.g2 = S.V.g2 ∧ S'.V.super = S.V.super
set_option maxHeartbeats 4000000 in
theorem saveJ (h : WJ a A on S f0 f1 m b N) (hm : m ≤ 57) (hb : b ≤ 1099511610000) (tn : Nat) (s : Nat → Sl10) (md : Int) (c : By) (q : Nat) (hq : 1 ≤ q ∧ q ≤ 8) (hg : S.V.g1 = q) (hW : ∀ j, j < 8 → okS (s j)) (hc : sBy s = S48 c) (hr : RA c q) (hk : (S.V.is.say (dirtyN s) md).ok) :
    Fnc Tryz.prog 34 [pt B.vn, pt tn, .int .i64 md] (tB tn q s :: syM a A B S)
      (fun e M => ∃ S', SvJ a A on S f0 f1 m b N c (dirtyN s) md S' ∧ e = .returned (.int .i64 0) ∧ M = tB tn q s :: syM a A B S') := by
  have h0 := att_ (B := B) h.wi
  have h1 := w_store (a := a) (A := A) (B := B) (S := S)
  have h2 := w_failed (B := B) h.wi
  have h3 := Slots.bytes tn q s hW
  rw [hc] at h3
  have h4 := w_reg (a := a) (A := A) (B := B) (S := S)
  have h5 : Fnc Tryz.prog 35 [pt tn] [tB tn q s] (Ret (.int .i64 (dirtyN s)) [tB tn q s]) := Slots.dirty tn q s
  have h6 := fun b8 b11 b12 => right_ok (a := a) (A := A) (B := B) (S := S) b8 b11 b12 (S.V.is.say (dirtyN s) md) c q hq hg hr hk
  have h7 := w_plainJ (B := B) h (d := 1) (l := 63) (s := S48 c) (.inr rfl) (by omega) (Slots.S48_size c) hm hb
  rw [up0_1, up1_1] at h7
  refine fn_intro Tryz.func34 (by kernel_rfl) ?_
  repeat' ((conv => whnf); first
      | refine call_gr h0 (.one takeE) ?_
      | refine call_gr h1 (.one takeE) ?_
      | refine call_gr h2 (.one takeE) ?_
      | refine call_gr h3 (.blk takeC .nil) ?_
      | refine call_gr h4 (.one takeE) ?_
      | refine call_gr h5 (.blk takeC .nil) ?_
      | refine call_gr (h6 _ _ _) (.blk takeC (.blk takeC (.blk takeC (.one takeE)))) ?_
      | (refine call_a h7 (.one takeE) (fun S1 hS1 => ?_); obtain ⟨hw1, hv1, hm1⟩ := hS1)
      | refine nw (e := 37) (fun b8 => ?_)
      | refine nw (e := 9) (fun b11 => ?_)
      | refine nw_row (cs' := regC rg0) rg0_e (fun b12 => ?_)
      | (refine need ?_ ?_; exact regC_len _)
      | refine st_rgl rfl ?_
      | refine st_r70 ?_
      | refine st_r71 ?_
      | refine force_of ?_
      | refine ld1_lit ?_
      | refine st_lit rfl ?_
      | refine need (by first | rfl | omega) ?_
      | (refine ifs (fun h => ?_) (fun h => ?_) <;> (try (exfalso; first | omega | with_reducible contradiction | with_reducible exact h rfl))))
  all_goals (conv => whnf)
  have h8 := w_say (B := B) hw1.wi (d := dirtyN s) (md := md) (by rw [hm1.i]; exact hk)
  repeat' ((conv => whnf); first
      | refine draw_any 20 [(1, true), (3, true), (0, true), (2, false), (4, false), (5, true)] [cSt b8 A.sn] rfl (by kernel_rfl) (kept_of (.cons takeC .nil) ?_)
      | refine kept_of (.cons takeC .nil) ?_
      | refine fld1 ?_
      | refine call_gr h5 (.blk takeC .nil) ?_
      | refine call_gr h8 (.one takeE) ?_)
  all_goals (conv => whnf)
  have hs : SvJ a A on S f0 f1 m b N c (dirtyN s) md (S1.say (dirtyN s) md) := ⟨wj_say hw1 (by rw [hm1.i]; exact hk), hv1, hm1.i, by show S1.V.is.say _ _ = _; rw [hm1.i], hm1.g0, hm1.g1, hm1.g2, hm1.s⟩
  exact fin_g (A := tB tn q s :: syM a A B (S1.say (dirtyN s) md)) (.blk takeC (.one takeE)) ⟨_, hs, rfl, rfl⟩
end Go.Proofs.YtkjamonkohpcnaaGreat.Mt
/- Layer 23: what is awake; plain facts. -/
namespace Go.Proofs.YtkjamonkohpcnaaGreat.Mt
open Go Ev Sha Aes Orc Node Rec Chn Jrn Cau Sto Ivs Ctr Aut Stg Bgn Wld Cmt
open Rig (Fnc_takeR RigP Rg rgM z64 app_of RigA)
open Tree (TreP TreA Tre treM TI Same updB)
open Slots (By S48 RdQ RA tB slB sBy okS okR Right busyB usedB cnt Sl10 upd takeS setD setV freeS sc IsF)
set_option linter.unusedVariables false
set_option linter.unusedSimpArgs false
set_option maxRecDepth 100000
def c0 : By := fun _ => 0
def c2 : By := fun i => if i = 0 then 6 else if i = 1 then 34 else 0
def s1 : Nat → Sl10 := upd (slB c0) 0 (takeS 5)
def s2 : Nat → Sl10 := upd s1 0 (setD (setV (s1 0) 1 true) 1 true)
theorem lt8 {i : Nat} (h : i < 8) : i = 0 ∨ i = 1 ∨ i = 2 ∨ i = 3 ∨ i = 4 ∨ i = 5 ∨ i = 6 ∨ i = 7 := by omega
theorem ok_free {n : Nat} {s : Nat → Sl10} {i : Nat} (hg : (s i).g = -1) (h : sc (s i) = sc freeS) : okR n s i := ⟨fun _ => h, fun h0 => by omega⟩
theorem ra_0 : RA c0 3 := by
  refine ⟨fun i hi => ?_, by decide +kernel⟩
  rcases lt8 hi with rfl | rfl | rfl | rfl | rfl | rfl | rfl | rfl <;> exact ok_free (by decide +kernel) (by rfl)
theorem ra_2 : RA c2 3 := by
  refine ⟨fun i hi => ?_, by decide +kernel⟩
  rcases lt8 hi with rfl | rfl | rfl | rfl | rfl | rfl | rfl | rfl
  · refine ⟨fun h => absurd h (by decide +kernel), fun _ => ⟨by omega, by decide +kernel, fun j hj => by omega, by decide +kernel, by decide +kernel⟩⟩
  all_goals exact ok_free (by decide +kernel) (by rfl)
theorem by_2 : sBy s2 = S48 c2 := by decide +kernel
theorem dn_2 : dirtyN s2 = 1 := by decide +kernel
theorem by_2' : sBy (slB c2) = S48 c2 := ra_2.2
theorem ok_2 (j : Nat) (hj : j < 8) : okS (s2 j) := by
  rcases lt8 hj with rfl | rfl | rfl | rfl | rfl | rfl | rfl | rfl <;> exact ⟨by decide +kernel, by decide +kernel, by decide +kernel, by decide +kernel⟩
theorem ok_2' (j : Nat) (hj : j < 8) : okS (slB c2 j) := by
  rcases lt8 hj with rfl | rfl | rfl | rfl | rfl | rfl | rfl | rfl <;> exact ⟨by decide +kernel, by decide +kernel, by decide +kernel, by decide +kernel⟩
theorem ldq_0 : LdQ c0 3 0 := ⟨ra_0, by decide +kernel⟩
theorem ldq_2 : LdQ c2 3 1 := ⟨ra_2, by decide +kernel⟩
theorem len_0 : ((cnt (fun j => usedB (slB c0 j)) 8 : Nat) : Int) = 0 := by decide +kernel
theorem isf_5 : IsF (fun j => (slB c0 j).g = 5) 8 8 := ⟨Nat.le_refl _, fun j hj => by
  rcases lt8 hj with rfl | rfl | rfl | rfl | rfl | rfl | rfl | rfl <;> decide +kernel, fun h => by omega⟩
theorem isf_0 : IsF (fun j => (slB c0 j).g < 0) 3 0 := ⟨by omega, fun j hj => by omega, fun _ => by decide +kernel⟩
theorem g1_0 : ¬ (s1 0).g < 0 := by decide +kernel
theorem dat_z (k : Nat → Int) : dat k z64 = S48 c0 := by
  unfold dat; rw [if_pos rfl]; decide +kernel
theorem dat_p (k : Nat → Int) (c : By) : dat k (layB 0 2 (S48 c)) = S48 c := by
  have h := body_plain k num0 (Slots.S48_size c)
  unfold dat
  rw [if_neg, h]
  intro he
  have h8 : byte8 (layB 0 2 (S48 c)) = 2 := (layB_ok num0 (.inr rfl) (Slots.S48_size c)).2.2.1
  rw [he] at h8
  exact absurd h8 (by decide +kernel)
theorem kd_p (c : By) : kdOk (layB 0 2 (S48 c)) := (layB_ok num0 (.inr rfl) (Slots.S48_size c)).1
end Go.Proofs.YtkjamonkohpcnaaGreat.Mt
/- Layer 23: awake. -/
namespace Go.Proofs.YtkjamonkohpcnaaGreat.Mt
open Go Ev Sha Aes Orc Node Rec Chn Jrn Cau Sto Ivs Ctr Aut Stg Bgn Wld Cmt
open Rig (Fnc_takeR RigP Rg rgM z64 app_of RigA)
open Tree (TreP TreA Tre treM TI Same updB)
open Slots (By S48 RdQ RA tB slB sBy okS okR Right busyB usedB cnt Sl10 upd takeS setD setV freeS sc IsF)
set_option linter.unusedVariables false
set_option linter.unusedSimpArgs false
set_option maxRecDepth 100000
theorem fb_z : FB (fun _ => z64) := fun _ _ => .inl rfl
theorem fb_p (c : By) : FB (updB (fun _ => z64) 63 (layB 0 2 (S48 c))) := FB.upd fb_z 63 (.inr (kd_p c))
theorem upd_63 (f : Nat → ByteArray) (s : ByteArray) : updB f 63 s 63 = s := by unfold updB; exact if_pos rfl
theorem len0 (r : Nat) : Fnc Tryz.prog 53 [pt r] [tB r 3 (slB c0)] (Ret (.int .i64 0) [tB r 3 (slB c0)]) := by
  have h := Slots.len_ r 3 (slB c0)
  rw [len_0] at h; exact h
theorem take5 (r : Nat) : Fnc Tryz.prog 54 [pt r, .int .i64 5] [tB r 3 (slB c0)] (Ret (.tuple #[.int .i64 0, .int .i64 0]) [tB r 3 s1]) :=
  Slots.take_ok r 3 (slB c0) (by omega) 5 (by omega) (by omega) isf_5 0 isf_0 (by omega)
theorem mark5 (r : Nat) : Fnc Tryz.prog 55 [pt r, .int .i64 0, .int .i64 1, .bool true, .bool true] [tB r 3 s1] (Ret (.int .i64 0) [tB r 3 s2]) :=
  Slots.mark_ok r 3 s1 (by omega) 0 1 true true (by omega) (by omega) g1_0 (fun _ => rfl)
theorem bytes5 (r : Nat) : Fnc Tryz.prog 27 [pt r] [tB r 3 s2] (Ret (.string (S48 c2)) [tB r 3 s2]) := by
  have h := Slots.bytes r 3 s2 ok_2
  rw [by_2] at h; exact h
theorem bytes6 (r : Nat) : Fnc Tryz.prog 27 [pt r] [tB r 3 (slB c2)] (Ret (.string (S48 c2)) [tB r 3 (slB c2)]) := by
  have h := Slots.bytes r 3 (slB c2) ok_2'
  rw [by_2'] at h; exact h
theorem say_dm {y : RgV} (h : y.ok) (hat : y.at_ = true) {d : Int} (hd : 0 ≤ d ∧ d ≤ 8) : (y.say d 0).ok := by
  unfold RgV.ok at h ⊢
  show Reg.RR y.a1 y.ep y.iv y.ar0 y.ar1 y.u0 y.u1 d 0 y.at_
  exact { h with d0 := hd.1, d1 := hd.2, m0 := by omega, m1 := by omega, at1 := (fun hh => by rw [hat] at hh; cases hh), md := .inl rfl }
section
variable {a : RigA} {A : StoA} {B : VA} {on : Nat} {S : Sy} {f0 f1 : Nat → ByteArray} {m b : Nat} {N : Int}
theorem loadY (h : WJ a A on S f0 f1 m b N) (hf : FB f0 ∧ FB f1) (hb : b ≤ 1099511610000) (c : By) (q : Nat) (hq : 1 ≤ q ∧ q ≤ 8) (hg : S.V.g1 = q) (hc : dat S.v.k (f1 63) = S48 c) (hl : LdQ c q S.V.is.dirty) :
    Fnc Tryz.prog 24 [pt B.vn] (syM a A B S) (fun e M => ∃ S' r, (WJ a A on S' f0 f1 m (b + 7) N ∧ S'.v = S.v ∧ Sm S.V S'.V) ∧ e = .returned (.tuple #[pt r, .int .i64 0]) ∧ M = syM a A B S' ++ [tB r q (slB c)]) :=
  Fnc_mono (loadJ h hf hb c q hq hg hc) fun e M ⟨S', h1, h2⟩ => by
    rcases h2 with ⟨_, r, h3, h4⟩ | ⟨hn, _⟩
    · exact ⟨S', r, h1, h3, h4⟩
    · exact absurd hl hn
end
attribute [local irreducible] dgV D jC wrF rcC stC regC RgV.lay rgM syM S48 sBy RA LdQ slB s1 s2 fmV0 fmR
set_option maxHeartbeats 4000000 in
theorem awake_ : Fnc Tryz.prog 18 [] [] (Ret (.bool true) []) := by
  refine fn_intro Tryz.func18 (by kernel_rfl) ?_
  repeat' ((conv => whnf); first
      | (refine call_g (begunN 3 ⟨by omega, by omega⟩) .nil (fun e A' hq => ?_); obtain ⟨a, A, B, S, hj, hr, hV, hv, e1, e2⟩ := hq; subst e1; subst e2))
  all_goals (conv => whnf)
  have hg : S.V.g1 = (3 : Nat) := by rw [hV]; unfold fmV0; rfl
  have hdy : S.V.is.dirty = 0 := by rw [hV]; unfold fmV0 fmV; rfl
  have hl := loadY (B := B) hj ⟨fb_z, fb_z⟩ (by omega) c0 3 ⟨by omega, by omega⟩ hg (dat_z _) (by rw [hdy]; exact ldq_0)
  repeat' ((conv => whnf); first
      | (refine call_g hl (.one takeE) (fun e A' hq => ?_); obtain ⟨S1, r, ⟨hj1, hv1, hm1⟩, e1, e2⟩ := hq; subst e1; subst e2)
      | refine call_gr (len0 _) (.blk takeC .nil) ?_
      | refine call_gr (take5 _) (.blk takeC .nil) ?_
      | refine call_gr (mark5 _) (.blk takeC .nil) ?_
      | (refine ifs (fun h => ?_) (fun h => ?_) <;> (try (exfalso; first | omega | with_reducible contradiction | with_reducible exact h rfl))))
  all_goals (conv => whnf)
  have hg1 : S1.V.g1 = (3 : Nat) := hm1.g1.trans hg
  have hat1 := hj1.wi.vok.att
  have hok1 := hj1.wi.vok.reg
  have hs := saveJ (B := B) hj1 (by omega) (by omega) r s2 0 c2 3 ⟨by omega, by omega⟩ hg1 ok_2 by_2 ra_2 (by rw [dn_2]; exact say_dm hok1 hat1 (by omega))
  rw [dn_2] at hs
  repeat' ((conv => whnf); first
      | (refine call_g hs (.blk takeC (.one takeE)) (fun e A' hq => ?_); obtain ⟨S2, ⟨hj2, hv2, hi2, hn2, hg20, hg21, hg22, hsu2⟩, e1, e2⟩ := hq; subst e1; subst e2))
  all_goals (conv => whnf)
  have hc := w_commit (B := B) hj2 (by omega) (by omega) (by omega)
  have hw2 := w_store (a := a) (A := A) (B := B) (S := S2)
  repeat' ((conv => whnf); first
      | refine call_gr hw2 (.one takeE) ?_
      | (refine call_g hc (.one takeE) (fun e A' hq => ?_); obtain ⟨A3, S3, ha3, k3, e1, e2⟩ := hq; subst e1; subst e2))
  all_goals (conv => whnf)
  have hd3 : S3.V.is.dirty = 1 := by rw [k3.dy.1, hn2]; rfl
  have hg3 : S3.V.g1 = (3 : Nat) := k3.g.2.1.trans (hg21.trans hg1)
  have hl3 := loadY (B := B) k3.wj ⟨fb_z, fb_p c2⟩ (by omega) c2 3 ⟨by omega, by omega⟩ hg3 (by rw [upd_63]; exact dat_p _ _) (by rw [hd3]; exact ldq_2)
  repeat' ((conv => whnf); first
      | (refine call_g hl3 (.one takeE) (fun e A' hq => ?_); obtain ⟨S4, r4, ⟨hj4, hv4, hm4⟩, e1, e2⟩ := hq; subst e1; subst e2)
      | (refine ifs (fun h => ?_) (fun h => ?_) <;> (try (exfalso; first | omega | with_reducible contradiction | with_reducible exact h rfl))))
  all_goals (conv => whnf)
  have hw4 := w_store (a := a) (A := A3) (B := B) (S := S4)
  have hr4 := w_reg (a := a) (A := A3) (B := B) (S := S4)
  have hd4 : S4.V.is.dirty = 1 := by rw [hm4.i]; exact hd3
  rw [ha3] at *
  repeat' ((conv => whnf); first
      | refine call_gr (bytes5 _) (.blk takeC .nil) ?_
      | refine call_gr (bytes6 _) (.blk takeC .nil) ?_
      | refine call_gr hw4 (.one takeE) ?_
      | refine call_gr hr4 (.one takeE) ?_
      | refine getOK_of (v := .int .i64 S4.V.is.dirty) (rg_dy _) ?_
      | (refine ifs (fun h => ?_) (fun h => ?_) <;> (try (exfalso; first | omega | with_reducible contradiction | with_reducible exact h rfl))))
  all_goals (conv => whnf)
  all_goals exact fin_nil ⟨by first | rfl | (rw [hd4]; rfl), rfl⟩
end Go.Proofs.YtkjamonkohpcnaaGreat.Mt
