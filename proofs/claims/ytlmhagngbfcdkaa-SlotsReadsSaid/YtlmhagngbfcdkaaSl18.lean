/- The document's reading of slots. -/
import Derived.Test.YtlmhagngbfcdkaaSl17
namespace Go.Proofs.Ytlmhagngbfcdkaa.Slots
open Go Ev Be
set_option linter.unusedVariables false
set_option linter.unusedSimpArgs false
set_option maxRecDepth 100000
theorem bt_n (x : UInt8) (k : Nat) : bt x k = decide (x.toNat / 2 ^ k % 2 = 1) := by unfold bt; rfl
def RbQ (c : By) (q : Nat) : Ending → List Blk → Prop := fun e A => (RB c q ∧ ∃ g cap junk, e = .returned (.tuple #[lv g q cap, .bool true]) ∧ A = [lb g q (cutS c q) junk]) ∨ (¬ RB c q ∧ e = .returned (.tuple #[.slice none 0 0, .bool false]) ∧ A = [])
theorem fin_rbF {M : List Blk} {c : By} {q : Nat} (h : ¬ RB c q) : Ev.Fin M (RbQ c q (.returned (oneOrMany [.slice none 0 0, .bool false]))) := fin_nil (.inr ⟨h, rfl, rfl⟩)
theorem takes_left : ∀ A R : List Blk, Takes (A ++ R) A R
  | [], R => .nil
  | b :: A, R => .cons .here (takes_left A R)
theorem takes_tail : ∀ (b : Blk) (A : List Blk), Takes (b :: A) A [b]
  | b, [] => .nil
  | b, c :: A => .cons (.there .here) (takes_tail b A)
theorem vs_eq {a b c d : Int} (h1 : a = b) (h2 : c = d) : [Value.int .i64 a, .int .i64 c] = [.int .i64 b, .int .i64 d] := by rw [h1, h2]
theorem takes_all : ∀ M : List Blk, Takes M M []
  | [] => .nil
  | b :: M => .cons .here (takes_all M)
attribute [local irreducible] rl tc bu biX rowI rowE rowS padE padS by1 pw full sBy cnt bt seenB seenL S48 convert Builtin.copy_ Builtin.append_ Instr.makeSlice
theorem rfind0 (grp : Int) : Fnc Try.prog 31 [.slice none 0 0, .int .i64 grp] [] (Ret (.int .i64 (-1)) []) := by
  refine fn_intro Try.func31 (by kernel_rfl) ?_
  repeat' ((conv => whnf); first
      | refine loop_n 1 ?_
      | refine ld1_lit ?_
      | refine ldN_lit ?_
      | refine nw (fun n => ?_)
      | refine st_lit rfl ?_
      | refine need (by first | rfl | omega) ?_
      | (refine wr (fun z hz => ?_); (try rw [Int.tdiv_eq_ediv_of_nonneg (by omega)] at hz); rw [w64 (by omega) (by omega)] at hz; subst hz)
      | (refine zv (fun z hz => ?_); (try rw [Int.tmod_eq_emod_of_nonneg (by omega)] at hz); subst hz)
      | (refine ifs (fun h => ?_) (fun h => ?_) <;> (try (exfalso; first | omega | with_reducible contradiction | with_reducible exact h rfl)))
      | refine fin_nil ⟨?_, rfl⟩)
  all_goals rfl
theorem rread_form (q : Nat) (hq1 : 1 ≤ q) (hq8 : q ≤ 8) (s : ByteArray) (h : ¬ s.size = 48) : Fnc Try.prog 24 [.int .i64 q, .string s] [] (Ret (.tuple #[.slice none 0 0, .bool false]) []) := by
  refine fn_intro Try.func24 (by kernel_rfl) ?_
  repeat' ((conv => whnf); first
      | refine ld1_lit ?_
      | refine ldN_lit ?_
      | refine nw (fun n => ?_)
      | refine st_lit rfl ?_
      | refine need (by first | rfl | omega) ?_
      | (refine wr (fun z hz => ?_); (try rw [Int.tdiv_eq_ediv_of_nonneg (by omega)] at hz); rw [w64 (by omega) (by omega)] at hz; subst hz)
      | (refine zv (fun z hz => ?_); (try rw [Int.tmod_eq_emod_of_nonneg (by omega)] at hz); subst hz)
      | (refine ifs (fun h => ?_) (fun h => ?_) <;> (try (exfalso; first | omega | with_reducible contradiction | with_reducible exact h rfl)))
      | refine fin_nil ⟨?_, rfl⟩)
  all_goals rfl
set_option maxHeartbeats 8000000 in
theorem rread (c : By) (q : Nat) (hq1 : 1 ≤ q) (hq8 : q ≤ 8) : Fnc Try.prog 24 [.int .i64 q, .string (S48 c)] [] (RbQ c q) := by
  have hsz := S48_size c
  refine fn_intro Try.func24 (by kernel_rfl) ?_
  repeat' ((conv => whnf); first
      | refine loop_rule [7, 6] (fun vs M m => ∃ (i : Nat) (R : Own), vs = [.int .i64 i, R.val i] ∧ i ≤ q ∧ R.ok 10 i (rl i (slB c)) ∧ (∀ j, j < i → okQ c j) ∧ m = q - i ∧ M = R.blk 38 (rl i (slB c))) rfl ?_ ?_
      | refine ld1_lit ?_
      | refine ldN_lit ?_
      | refine nw (fun n => ?_)
      | refine st_lit rfl ?_
      | refine need (by first | rfl | omega) ?_
      | (refine wr (fun z hz => ?_); (try rw [Int.tdiv_eq_ediv_of_nonneg (by omega)] at hz); rw [w64 (by omega) (by omega)] at hz; subst hz)
      | (refine zv (fun z hz => ?_); (try rw [Int.tmod_eq_emod_of_nonneg (by omega)] at hz); subst hz)
      | (refine ifs (fun h => ?_) (fun h => ?_) <;> (try (exfalso; first | omega | with_reducible contradiction | with_reducible exact h rfl))))
  · exact fin_all ⟨_, 0, .nil, rfl, by omega, ⟨by rw [rl_len], rfl⟩, fun j hj => absurd hj (by omega), rfl, rfl⟩
  rintro vs junk M' m ⟨i, R, rfl, hi, hR, hok, rfl, rfl⟩
  by_cases hiq : i < q
  · obtain ⟨x0, e0⟩ : ∃ x, x = c (4 * i) := ⟨_, rfl⟩
    obtain ⟨x1, e1⟩ : ∃ x, x = c (4 * i + 1) := ⟨_, rfl⟩
    obtain ⟨x2, e2⟩ : ∃ x, x = c (4 * i + 2) := ⟨_, rfl⟩
    have h0 := x0.toNat_lt
    have h1 := x1.toNat_lt
    have h2 := x2.toNat_lt
    have hQ : okQ c i = ((∀ k, k < 4 → bt x1 k = true → bt x1 (4 + k) = true) ∧ ¬ ((x0.toNat : Int) - 1 < 0 ∧ (0 < (x1.toNat : Int) ∨ 0 < (x2.toNat : Int))) ∧ (x0.toNat : Int) - 1 ≤ 15 ∧ (x2.toNat : Int) ≤ 3 ∧ ¬ ∃ j, j < i ∧ (slB c j).g = (x0.toNat : Int) - 1 ∧ 0 ≤ (x0.toNat : Int) - 1) := by
      rw [e0, e1, e2]; rfl
    have z0 := S48_at c (k := 4 * i) (by omega)
    have z1 := S48_at c (k := 4 * i + 1) (by omega)
    have z2 := S48_at c (k := 4 * i + 2) (by omega)
    rw [← e0] at z0
    rw [← e1] at z1
    rw [← e2] at z2
    have t0 : (4 * (i : Int)).toNat = 4 * i := by omega
    have t1 : (4 * (i : Int) + 1).toNat = 4 * i + 1 := by omega
    have t2 : (4 * (i : Int) + 2).toNat = 4 * i + 2 := by omega
    have hno : ¬ okQ c i → ¬ RB c q := fun h hb => h (hb.1 i hiq)
    rw [hQ] at hno
    repeat' ((conv => whnf); first
        | refine draw_any 7 [(0, true), (1, true), (2, true), (3, true), (4, true), (5, true), (6, true), (7, true), (8, true), (9, true), (10, true), (11, true), (12, true), (13, false), (14, false)] [] rfl (by kernel_rfl) ?_
        | refine kept_nil ?_
        | (refine zv (fun z hz => ?_); rw [t0, z0] at hz; subst hz)
        | (refine zv (fun z hz => ?_); rw [t1, z1] at hz; subst hz)
        | (refine zv (fun z hz => ?_); rw [t2, z2] at hz; subst hz)
        | (refine nv (fun z hz => ?_); (try simp at hz); replace hz := hz.symm; subst hz)
        | refine ld1_lit ?_
        | refine ldN_lit ?_
        | refine nw (fun n => ?_)
        | refine st_lit rfl ?_
        | refine need (by first | rfl | omega) ?_
        | (refine wr (fun z hz => ?_); (try rw [Int.tdiv_eq_ediv_of_nonneg (by omega)] at hz); rw [w64 (by omega) (by omega)] at hz; subst hz)
        | (refine zv (fun z hz => ?_); (try rw [Int.tmod_eq_emod_of_nonneg (by omega)] at hz); subst hz)
        | (refine ifs (fun h => ?_) (fun h => ?_) <;> (try (exfalso; first | omega | with_reducible contradiction | with_reducible exact h rfl))))
    all_goals (conv => whnf)
    refine loop_rule [10, 9] (fun vs M m => ∃ k : Nat, vs = [.int .i64 k, .int .i64 ((x1.toNat / 2 ^ k : Nat) : Int)] ∧ k ≤ 4 ∧ (∀ p, p < k → bt x1 p = true → bt x1 (4 + p) = true) ∧ m = 4 - k ∧ M = ⟨n, .cells [.int .i64 ((x0.toNat : Int) - 1), .bool (if 0 < k then bt x1 4 else false), .bool (if 1 < k then bt x1 5 else false), .bool (if 2 < k then bt x1 6 else false), .bool (if 3 < k then bt x1 7 else false), .bool (if 0 < k then bt x1 0 else false), .bool (if 1 < k then bt x1 1 else false), .bool (if 2 < k then bt x1 2 else false), .bool (if 3 < k then bt x1 3 else false), .int .i64 (x2.toNat : Int)] 38⟩ :: R.blk 38 (rl i (slB c))) rfl ?_ ?_
    · exact fin_all ⟨_, 0, vs_eq rfl (by rw [Nat.pow_zero, Nat.div_one]), by omega, fun p hp => absurd hp (by omega), rfl, rfl⟩
    rintro vs junk1 M' m ⟨k, rfl, hk, hdv, rfl, rfl⟩
    have hcase : k = 0 ∨ k = 1 ∨ k = 2 ∨ k = 3 ∨ k = 4 := by omega
    rcases hcase with rfl | rfl | rfl | rfl | rfl
    · rcases hd : bt x1 0 <;> rcases hv : bt x1 4
      all_goals (have fd := bt_n x1 0; rw [hd] at fd; simp at fd)
      all_goals (have fv := bt_n x1 4; rw [hv] at fv; simp at fv)
      all_goals repeat' ((conv => whnf); first
          | (refine zv (fun z hz => ?_); rw [Int.tmod_eq_emod_of_nonneg (by omega)] at hz; subst hz)
          | (refine nv (fun z hz => ?_); (try simp at hz); replace hz := hz.symm; subst hz)
          | refine ld1_lit ?_
          | refine ldN_lit ?_
          | refine nw (fun n => ?_)
          | refine st_lit rfl ?_
          | refine need (by first | rfl | omega) ?_
          | (refine wr (fun z hz => ?_); (try rw [Int.tdiv_eq_ediv_of_nonneg (by omega)] at hz); rw [w64 (by omega) (by omega)] at hz; subst hz)
          | (refine zv (fun z hz => ?_); (try rw [Int.tmod_eq_emod_of_nonneg (by omega)] at hz); subst hz)
          | (refine ifs (fun h => ?_) (fun h => ?_) <;> (try (exfalso; first | omega | with_reducible contradiction | with_reducible exact h rfl))))
      all_goals (conv => whnf)
      all_goals first
        | exact ⟨rfl, fin_pick (A' := [⟨n, .cells _ 38⟩] ++ R.blk 38 (rl i (slB c))) (takes_all _) ⟨4 - 1, by omega, 1, vs_eq rfl (by omega), by omega, fun p hp hpd => by (by_cases e : p < 0; exact hdv p e hpd; (obtain rfl : p = 0 := by omega); first | exact hv | (rw [hd] at hpd; cases hpd)), rfl, by simp [hd, hv]⟩⟩
        | exact fin_rbF (hno fun h => by have : bt x1 4 = true := h.1 0 (by omega) hd; rw [hv] at this; cases this)
    · rcases hd : bt x1 1 <;> rcases hv : bt x1 5
      all_goals (have fd := bt_n x1 1; rw [hd] at fd; simp at fd)
      all_goals (have fv := bt_n x1 5; rw [hv] at fv; simp at fv)
      all_goals repeat' ((conv => whnf); first
          | (refine zv (fun z hz => ?_); rw [Int.tmod_eq_emod_of_nonneg (by omega)] at hz; subst hz)
          | (refine nv (fun z hz => ?_); (try simp at hz); replace hz := hz.symm; subst hz)
          | refine ld1_lit ?_
          | refine ldN_lit ?_
          | refine nw (fun n => ?_)
          | refine st_lit rfl ?_
          | refine need (by first | rfl | omega) ?_
          | (refine wr (fun z hz => ?_); (try rw [Int.tdiv_eq_ediv_of_nonneg (by omega)] at hz); rw [w64 (by omega) (by omega)] at hz; subst hz)
          | (refine zv (fun z hz => ?_); (try rw [Int.tmod_eq_emod_of_nonneg (by omega)] at hz); subst hz)
          | (refine ifs (fun h => ?_) (fun h => ?_) <;> (try (exfalso; first | omega | with_reducible contradiction | with_reducible exact h rfl))))
      all_goals (conv => whnf)
      all_goals first
        | exact ⟨rfl, fin_pick (A' := [⟨n, .cells _ 38⟩] ++ R.blk 38 (rl i (slB c))) (takes_all _) ⟨4 - 2, by omega, 2, vs_eq rfl (by omega), by omega, fun p hp hpd => by (by_cases e : p < 1; exact hdv p e hpd; (obtain rfl : p = 1 := by omega); first | exact hv | (rw [hd] at hpd; cases hpd)), rfl, by simp [hd, hv]⟩⟩
        | exact fin_rbF (hno fun h => by have : bt x1 5 = true := h.1 1 (by omega) hd; rw [hv] at this; cases this)
    · rcases hd : bt x1 2 <;> rcases hv : bt x1 6
      all_goals (have fd := bt_n x1 2; rw [hd] at fd; simp at fd)
      all_goals (have fv := bt_n x1 6; rw [hv] at fv; simp at fv)
      all_goals repeat' ((conv => whnf); first
          | (refine zv (fun z hz => ?_); rw [Int.tmod_eq_emod_of_nonneg (by omega)] at hz; subst hz)
          | (refine nv (fun z hz => ?_); (try simp at hz); replace hz := hz.symm; subst hz)
          | refine ld1_lit ?_
          | refine ldN_lit ?_
          | refine nw (fun n => ?_)
          | refine st_lit rfl ?_
          | refine need (by first | rfl | omega) ?_
          | (refine wr (fun z hz => ?_); (try rw [Int.tdiv_eq_ediv_of_nonneg (by omega)] at hz); rw [w64 (by omega) (by omega)] at hz; subst hz)
          | (refine zv (fun z hz => ?_); (try rw [Int.tmod_eq_emod_of_nonneg (by omega)] at hz); subst hz)
          | (refine ifs (fun h => ?_) (fun h => ?_) <;> (try (exfalso; first | omega | with_reducible contradiction | with_reducible exact h rfl))))
      all_goals (conv => whnf)
      all_goals first
        | exact ⟨rfl, fin_pick (A' := [⟨n, .cells _ 38⟩] ++ R.blk 38 (rl i (slB c))) (takes_all _) ⟨4 - 3, by omega, 3, vs_eq rfl (by omega), by omega, fun p hp hpd => by (by_cases e : p < 2; exact hdv p e hpd; (obtain rfl : p = 2 := by omega); first | exact hv | (rw [hd] at hpd; cases hpd)), rfl, by simp [hd, hv]⟩⟩
        | exact fin_rbF (hno fun h => by have : bt x1 6 = true := h.1 2 (by omega) hd; rw [hv] at this; cases this)
    · rcases hd : bt x1 3 <;> rcases hv : bt x1 7
      all_goals (have fd := bt_n x1 3; rw [hd] at fd; simp at fd)
      all_goals (have fv := bt_n x1 7; rw [hv] at fv; simp at fv)
      all_goals repeat' ((conv => whnf); first
          | (refine zv (fun z hz => ?_); rw [Int.tmod_eq_emod_of_nonneg (by omega)] at hz; subst hz)
          | (refine nv (fun z hz => ?_); (try simp at hz); replace hz := hz.symm; subst hz)
          | refine ld1_lit ?_
          | refine ldN_lit ?_
          | refine nw (fun n => ?_)
          | refine st_lit rfl ?_
          | refine need (by first | rfl | omega) ?_
          | (refine wr (fun z hz => ?_); (try rw [Int.tdiv_eq_ediv_of_nonneg (by omega)] at hz); rw [w64 (by omega) (by omega)] at hz; subst hz)
          | (refine zv (fun z hz => ?_); (try rw [Int.tmod_eq_emod_of_nonneg (by omega)] at hz); subst hz)
          | (refine ifs (fun h => ?_) (fun h => ?_) <;> (try (exfalso; first | omega | with_reducible contradiction | with_reducible exact h rfl))))
      all_goals (conv => whnf)
      all_goals first
        | exact ⟨rfl, fin_pick (A' := [⟨n, .cells _ 38⟩] ++ R.blk 38 (rl i (slB c))) (takes_all _) ⟨4 - 4, by omega, 4, vs_eq rfl (by omega), by omega, fun p hp hpd => by (by_cases e : p < 3; exact hdv p e hpd; (obtain rfl : p = 3 := by omega); first | exact hv | (rw [hd] at hpd; cases hpd)), rfl, by simp [hd, hv]⟩⟩
        | exact fin_rbF (hno fun h => by have : bt x1 7 = true := h.1 3 (by omega) hd; rw [hv] at this; cases this)
    · obtain ⟨k8, h8⟩ := isF_ex (fun j => (slB c j).g = (x0.toNat : Int) - 1 ∧ 0 ≤ (x0.toNat : Int) - 1) i
      have hk8 := h8.1
      have hQt : (x0.toNat : Int) - 1 < 16 → (x2.toNat : Int) < 4 → ¬ ((x0.toNat : Int) - 1 < 0 ∧ (0 < (x1.toNat : Int) ∨ 0 < (x2.toNat : Int))) → ¬ k8 < i → okQ c i := fun q1 q2 q3 q4 => by
        rw [hQ]
        exact ⟨hdv, q3, by omega, by omega, fun ⟨j, hj, w1, w2⟩ => h8.2.1 j (by omega) ⟨w1, w2⟩⟩
      have hQf : k8 < i → ¬ okQ c i := fun q4 h => by
        rw [hQ] at h
        exact h.2.2.2.2 ⟨k8, q4, h8.2.2 q4⟩
      rw [← hQ] at hno
      obtain ⟨fv, hfv, hf⟩ : ∃ fv : Int, (0 ≤ fv ↔ k8 < i) ∧ Fnc Try.prog 31 [R.val i, .int .i64 ((x0.toNat : Int) - 1)] (R.blk 38 (rl i (slB c))) (Ret (.int .i64 fv) (R.blk 38 (rl i (slB c)))) := by
        rcases R with _ | ⟨g, cap, junk2⟩
        · have hi0 : i = 0 := by
            have := hR.2
            simpa using this
          subst hi0
          exact ⟨-1, by omega, rfind0 ((x0.toNat : Int) - 1)⟩
        · refine ⟨_, ?_, rfind g i cap (slB c) junk2 ((x0.toNat : Int) - 1) (by omega) k8 h8⟩
          by_cases hki : k8 < i
          · rw [if_pos hki]; omega
          · rw [if_neg hki]; omega
      repeat' ((conv => whnf); first
          | (refine zv (fun z hz => ?_); rw [t1, z1] at hz; subst hz)
          | (refine nv (fun z hz => ?_); (try simp at hz); replace hz := hz.symm; subst hz)
          | (refine call_ret hf (takes_tail _ _) ?_; rw [appM_eq])
          | refine app_wide (S := R) (n := i) (m := 1) (sz := 10) (e := 38) (xs := rl i (slB c)) (news := [.int .i64 ((x0.toNat : Int) - 1), .bool (bt x1 4), .bool (bt x1 5), .bool (bt x1 6), .bool (bt x1 7), .bool (bt x1 0), .bool (bt x1 1), .bool (bt x1 2), .bool (bt x1 3), .int .i64 (x2.toNat : Int)]) rfl rfl rfl rfl rfl hR rfl (by omega) (sc_one ⟨_, fun k => bt x1 (4 + k), fun k => bt x1 k, _⟩) (by show (i + 1) * 24 ≤ _; omega) (by omega) (Ev.cells_from rfl) (fun R' hR' => ?_)
          | refine ld1_lit ?_
          | refine ldN_lit ?_
          | refine nw (fun n => ?_)
          | refine st_lit rfl ?_
          | refine need (by first | rfl | omega) ?_
          | (refine wr (fun z hz => ?_); (try rw [Int.tdiv_eq_ediv_of_nonneg (by omega)] at hz); rw [w64 (by omega) (by omega)] at hz; subst hz)
          | (refine zv (fun z hz => ?_); (try rw [Int.tmod_eq_emod_of_nonneg (by omega)] at hz); subst hz)
          | (refine ifs (fun h => ?_) (fun h => ?_) <;> (try (exfalso; first | omega | with_reducible contradiction | with_reducible exact h rfl))))
      all_goals (conv => whnf)
      all_goals first
        | exact fin_rbF (hno (hQf (hfv.1 (by assumption))))
        | exact fin_rbF (hno fun h => by rw [hQ] at h; first | omega | exact h.2.1 ⟨by omega, by omega⟩)
        | skip
      all_goals refine ⟨rfl, ?_⟩
      all_goals (refine fin_drop (fin_pick (takes_left _ _) ⟨q - (i + 1), by omega, i + 1, R', rfl, by omega, ?_, ?_, rfl, ?_⟩))
      all_goals first
        | exact fun j hj => (by by_cases e : j < i; exact hok j e; (obtain rfl : j = i := (by omega)); exact hQt (by omega) (by omega) (by omega) (by omega))
        | (rw [rl_succ]; subst e0; subst e1; subst e2; exact hR')
        | (rw [rl_succ]; subst e0; subst e1; subst e2; rfl)
  · obtain rfl : i = q := by omega
    rcases R with _ | ⟨g, cap, junk2⟩
    · exfalso
      have := hR.2
      simp at this
      omega
    · have hW : ∀ j, j < 8 → okS (cutS c i j) := fun j hj => by
        unfold cutS
        by_cases h : j < i
        · rw [if_pos h]
          have h1 := hok j h
          have h2 := slB_bd c j
          unfold okQ at h1
          unfold okS
          omega
        · rw [if_neg h]; exact okS_free
      have hrl : rl i (slB c) = rl i (cutS c i) := rl_congr' fun j hj => by unfold cutS; rw [if_pos hj]
      rw [hrl]
      repeat' ((conv => whnf); first
          | refine call_ret (rbytes g i cap (cutS c i) junk2 hq1 hq8 hW) (.cons (by first | exact .here | exact .there .here | exact .there (.there .here) | exact .there (.there (.there .here)) | exact .there (.there (.there (.there .here))) | exact .there (.there (.there (.there (.there .here)))) | exact .there (.there (.there (.there (.there (.there .here)))))) .nil) ?_
          | refine ld1_lit ?_
          | refine ldN_lit ?_
          | refine nw (fun n => ?_)
          | refine st_lit rfl ?_
          | refine need (by first | rfl | omega) ?_
          | (refine wr (fun z hz => ?_); (try rw [Int.tdiv_eq_ediv_of_nonneg (by omega)] at hz); rw [w64 (by omega) (by omega)] at hz; subst hz)
          | (refine zv (fun z hz => ?_); (try rw [Int.tmod_eq_emod_of_nonneg (by omega)] at hz); subst hz)
          | (refine ifs (fun h => ?_) (fun h => ?_) <;> (try (exfalso; first | omega | with_reducible contradiction | with_reducible exact h rfl))))
      all_goals (conv => whnf)
      all_goals first
        | exact fin_rbF (fun h => absurd h.2 (by assumption))
        | exact fin_pick (.cons (by first | exact .here | exact .there .here | exact .there (.there .here) | exact .there (.there (.there .here)) | exact .there (.there (.there (.there .here))) | exact .there (.there (.there (.there (.there .here)))) | exact .there (.there (.there (.there (.there (.there .here)))))) .nil) (.inl ⟨⟨hok, by assumption⟩, g, cap, junk2, rfl, rfl⟩)
end Go.Proofs.Ytlmhagngbfcdkaa.Slots
