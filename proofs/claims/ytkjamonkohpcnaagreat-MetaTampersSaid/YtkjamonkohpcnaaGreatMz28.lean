/- The document's reading of slots. -/
import Derived.Test.YtkjamonkohpcnaaGreatMz27
namespace Go.Proofs.YtkjamonkohpcnaaGreat.Slots
open Go Ev Be
set_option linter.unusedVariables false
set_option linter.unusedSimpArgs false
set_option maxRecDepth 100000
theorem bt_n (x : UInt8) (k : Nat) : bt x k = decide (x.toNat / 2 ^ k % 2 = 1) := by unfold bt; rfl
def RbQ (c : By) (q : Nat) : Ending → List Blk → Prop := fun e A => (RB c q ∧ ∃ g cap junk, e = .returned (.tuple #[lv g q cap, .bool true]) ∧ A = [lb g q (cutS c q) junk]) ∨ (¬ RB c q ∧ e = .returned (.tuple #[.slice none 0 0, .bool false]) ∧ A = [])
theorem fin_rbF {M : List Blk} {c : By} {q : Nat} (h : ¬ RB c q) : Ev.Fin M (RbQ c q (.returned (oneOrMany [.slice none 0 0, .bool false]))) := fin_nil (.inr ⟨h, rfl, rfl⟩)
theorem takes_left : ∀ A R : List Blk, Takes (A ++ R) A R
  | [], R => .nil
  | b :: A, R => .cons .here (takes_left A R)
theorem takes_tail : ∀ (b : Blk) (A : List Blk), Takes (b :: A) A [b]
  | b, [] => .nil
  | b, c :: A => .cons (.there .here) (takes_tail b A)
theorem vs_eq {a b c d : Int} (h1 : a = b) (h2 : c = d) : [Value.int .i64 a, .int .i64 c] = [.int .i64 b, .int .i64 d] := by rw [h1, h2]
theorem takes_all : ∀ M : List Blk, Takes M M []
  | [] => .nil
  | b :: M => .cons .here (takes_all M)
attribute [local irreducible] rl tc bu biX rowI rowE rowS padE padS by1 pw full sBy cnt bt seenB seenL S48 convert Builtin.copy_ Builtin.append_ Instr.makeSlice
theorem rfind0 (grp : Int) : Fnc Tryz.prog 64 [.slice none 0 0, .int .i64 grp] [] (Ret (.int .i64 (-1)) []) := by
  refine fn_intro Tryz.func64 (by kernel_rfl) ?_
  repeat' ((conv => whnf); first
      | refine loop_n 1 ?_
      | (refine ifs (fun h => ?_) (fun h => ?_) <;> (try (exfalso; first | omega | with_reducible contradiction | with_reducible exact h rfl)))
      | refine fin_nil ⟨?_, rfl⟩)
  all_goals rfl
set_option maxHeartbeats 8000000 in
theorem rread (c : By) (q : Nat) (hq1 : 1 ≤ q) (hq8 : q ≤ 8) : Fnc Tryz.prog 25 [.int .i64 q, .string (S48 c)] [] (RbQ c q) := by
  have hsz := S48_size c
  refine fn_intro Tryz.func25 (by kernel_rfl) ?_
  repeat' ((conv => whnf); first
      | refine loop_rule [7, 6] (fun vs M m => ∃ (i : Nat) (R : Own), vs = [.int .i64 i, R.val i] ∧ i ≤ q ∧ R.ok 10 i (rl i (slB c)) ∧ (∀ j, j < i → okQ c j) ∧ m = q - i ∧ M = R.blk 66 (rl i (slB c))) rfl ?_ ?_
      | (refine ifs (fun h => ?_) (fun h => ?_) <;> (try (exfalso; first | omega | with_reducible contradiction | with_reducible exact h rfl))))
  · exact fin_all ⟨_, 0, .nil, rfl, by omega, ⟨by rw [rl_len], rfl⟩, fun j hj => absurd hj (by omega), rfl, rfl⟩
  rintro vs junk M' m ⟨i, R, rfl, hi, hR, hok, rfl, rfl⟩
  by_cases hiq : i < q
  · obtain ⟨x0, e0⟩ : ∃ x, x = c (4 * i) := ⟨_, rfl⟩
    obtain ⟨x1, e1⟩ : ∃ x, x = c (4 * i + 1) := ⟨_, rfl⟩
    obtain ⟨x2, e2⟩ : ∃ x, x = c (4 * i + 2) := ⟨_, rfl⟩
    have h0 := x0.toNat_lt
    have h1 := x1.toNat_lt
    have h2 := x2.toNat_lt
    have hQ : okQ c i = ((∀ k, k < 4 → bt x1 k = true → bt x1 (4 + k) = true) ∧ ¬ ((x0.toNat : Int) - 1 < 0 ∧ (0 < (x1.toNat : Int) ∨ 0 < (x2.toNat : Int))) ∧ (x0.toNat : Int) - 1 ≤ 15 ∧ (x2.toNat : Int) ≤ 3 ∧ ¬ ∃ j, j < i ∧ (slB c j).g = (x0.toNat : Int) - 1 ∧ 0 ≤ (x0.toNat : Int) - 1) := by
      rw [e0, e1, e2]; rfl
    have z0 := S48_at c (k := 4 * i) (by omega)
    have z1 := S48_at c (k := 4 * i + 1) (by omega)
    have z2 := S48_at c (k := 4 * i + 2) (by omega)
    rw [← e0] at z0
    rw [← e1] at z1
    rw [← e2] at z2
    have t0 : (4 * (i : Int)).toNat = 4 * i := by omega
    have t1 : (4 * (i : Int) + 1).toNat = 4 * i + 1 := by omega
    have t2 : (4 * (i : Int) + 2).toNat = 4 * i + 2 := by omega
    have hno : ¬ okQ c i → ¬ RB c q := fun h hb => h (hb.1 i hiq)
    rw [hQ] at hno
    repeat' ((conv => whnf); first
        | refine draw_any 7 [(0, true), (1, true), (2, true), (3, true), (4, true), (5, true), (6, true), (7, true), (8, true), (9, true), (10, true), (11, true), (12, true), (13, false), (14, false)] [] rfl (by kernel_rfl) ?_
        | refine kept_nil ?_
        | (refine zv (fun z hz => ?_); rw [t0, z0] at hz; subst hz)
        | (refine zv (fun z hz => ?_); rw [t1, z1] at hz; subst hz)
        | (refine zv (fun z hz => ?_); rw [t2, z2] at hz; subst hz)
        | refine nw (fun n => ?_)
        | refine bld ?_
        | refine st_lit rfl ?_
        | refine need (by first | rfl | omega) ?_
        | (refine wr (fun z hz => ?_); (try rw [Int.tdiv_eq_ediv_of_nonneg (by omega)] at hz); rw [w64 (by omega) (by omega)] at hz; subst hz)
        | (refine ifs (fun h => ?_) (fun h => ?_) <;> (try (exfalso; first | omega | with_reducible contradiction | with_reducible exact h rfl))))
    all_goals (conv => whnf)
    refine loop_rule [10, 9] (fun vs M m => ∃ k : Nat, vs = [.int .i64 k, .int .i64 ((x1.toNat / 2 ^ k : Nat) : Int)] ∧ k ≤ 4 ∧ (∀ p, p < k → bt x1 p = true → bt x1 (4 + p) = true) ∧ m = 4 - k ∧ M = ⟨n, .cells [.int .i64 ((x0.toNat : Int) - 1), .bool (if 0 < k then bt x1 4 else false), .bool (if 1 < k then bt x1 5 else false), .bool (if 2 < k then bt x1 6 else false), .bool (if 3 < k then bt x1 7 else false), .bool (if 0 < k then bt x1 0 else false), .bool (if 1 < k then bt x1 1 else false), .bool (if 2 < k then bt x1 2 else false), .bool (if 3 < k then bt x1 3 else false), .int .i64 (x2.toNat : Int)] 66⟩ :: R.blk 66 (rl i (slB c))) rfl ?_ ?_
    · exact fin_all ⟨_, 0, vs_eq rfl (by rw [Nat.pow_zero, Nat.div_one]), by omega, fun p hp => absurd hp (by omega), rfl, rfl⟩
    rintro vs junk1 M' m ⟨k, rfl, hk, hdv, rfl, rfl⟩
    have hcase : k = 0 ∨ k = 1 ∨ k = 2 ∨ k = 3 ∨ k = 4 := by omega
    rcases hcase with rfl | rfl | rfl | rfl | rfl
    · rcases hd : bt x1 0 <;> rcases hv : bt x1 4
      all_goals (have fd := bt_n x1 0; rw [hd] at fd; simp at fd)
      all_goals (have fv := bt_n x1 4; rw [hv] at fv; simp at fv)
      all_goals repeat' ((conv => whnf); first
          | (refine zv (fun z hz => ?_); rw [Int.tmod_eq_emod_of_nonneg (by omega)] at hz; subst hz)
          | (refine nv (fun z hz => ?_); (try simp at hz); replace hz := hz.symm; subst hz)
          | refine ld1_lit ?_
          | refine st_lit rfl ?_
          | refine need (by first | rfl | omega) ?_
          | (refine wr (fun z hz => ?_); (try rw [Int.tdiv_eq_ediv_of_nonneg (by omega)] at hz); rw [w64 (by omega) (by omega)] at hz; subst hz)
          | (refine ifs (fun h => ?_) (fun h => ?_) <;> (try (exfalso; first | omega | with_reducible contradiction | with_reducible exact h rfl))))
      all_goals (conv => whnf)
      all_goals first
        | exact ⟨rfl, fin_pick (A' := [⟨n, .cells _ 66⟩] ++ R.blk 66 (rl i (slB c))) (takes_all _) ⟨4 - 1, by omega, 1, vs_eq rfl (by omega), by omega, fun p hp hpd => by (by_cases e : p < 0; exact hdv p e hpd; (obtain rfl : p = 0 := by omega); first | exact hv | (rw [hd] at hpd; cases hpd)), rfl, by simp [hd, hv]⟩⟩
        | exact fin_rbF (hno fun h => by have : bt x1 4 = true := h.1 0 (by omega) hd; rw [hv] at this; cases this)
    · rcases hd : bt x1 1 <;> rcases hv : bt x1 5
      all_goals (have fd := bt_n x1 1; rw [hd] at fd; simp at fd)
      all_goals (have fv := bt_n x1 5; rw [hv] at fv; simp at fv)
      all_goals repeat' ((conv => whnf); first
          | (refine zv (fun z hz => ?_); rw [Int.tmod_eq_emod_of_nonneg (by omega)] at hz; subst hz)
          | (refine nv (fun z hz => ?_); (try simp at hz); replace hz := hz.symm; subst hz)
          | refine ld1_lit ?_
          | refine st_lit rfl ?_
          | refine need (by first | rfl | omega) ?_
          | (refine wr (fun z hz => ?_); (try rw [Int.tdiv_eq_ediv_of_nonneg (by omega)] at hz); rw [w64 (by omega) (by omega)] at hz; subst hz)
          | (refine ifs (fun h => ?_) (fun h => ?_) <;> (try (exfalso; first | omega | with_reducible contradiction | with_reducible exact h rfl))))
      all_goals (conv => whnf)
      all_goals first
        | exact ⟨rfl, fin_pick (A' := [⟨n, .cells _ 66⟩] ++ R.blk 66 (rl i (slB c))) (takes_all _) ⟨4 - 2, by omega, 2, vs_eq rfl (by omega), by omega, fun p hp hpd => by (by_cases e : p < 1; exact hdv p e hpd; (obtain rfl : p = 1 := by omega); first | exact hv | (rw [hd] at hpd; cases hpd)), rfl, by simp [hd, hv]⟩⟩
        | exact fin_rbF (hno fun h => by have : bt x1 5 = true := h.1 1 (by omega) hd; rw [hv] at this; cases this)
    · rcases hd : bt x1 2 <;> rcases hv : bt x1 6
      all_goals (have fd := bt_n x1 2; rw [hd] at fd; simp at fd)
      all_goals (have fv := bt_n x1 6; rw [hv] at fv; simp at fv)
      all_goals repeat' ((conv => whnf); first
          | (refine zv (fun z hz => ?_); rw [Int.tmod_eq_emod_of_nonneg (by omega)] at hz; subst hz)
          | (refine nv (fun z hz => ?_); (try simp at hz); replace hz := hz.symm; subst hz)
          | refine ld1_lit ?_
          | refine st_lit rfl ?_
          | refine need (by first | rfl | omega) ?_
          | (refine wr (fun z hz => ?_); (try rw [Int.tdiv_eq_ediv_of_nonneg (by omega)] at hz); rw [w64 (by omega) (by omega)] at hz; subst hz)
          | (refine ifs (fun h => ?_) (fun h => ?_) <;> (try (exfalso; first | omega | with_reducible contradiction | with_reducible exact h rfl))))
      all_goals (conv => whnf)
      all_goals first
        | exact ⟨rfl, fin_pick (A' := [⟨n, .cells _ 66⟩] ++ R.blk 66 (rl i (slB c))) (takes_all _) ⟨4 - 3, by omega, 3, vs_eq rfl (by omega), by omega, fun p hp hpd => by (by_cases e : p < 2; exact hdv p e hpd; (obtain rfl : p = 2 := by omega); first | exact hv | (rw [hd] at hpd; cases hpd)), rfl, by simp [hd, hv]⟩⟩
        | exact fin_rbF (hno fun h => by have : bt x1 6 = true := h.1 2 (by omega) hd; rw [hv] at this; cases this)
    · rcases hd : bt x1 3 <;> rcases hv : bt x1 7
      all_goals (have fd := bt_n x1 3; rw [hd] at fd; simp at fd)
      all_goals (have fv := bt_n x1 7; rw [hv] at fv; simp at fv)
      all_goals repeat' ((conv => whnf); first
          | (refine zv (fun z hz => ?_); rw [Int.tmod_eq_emod_of_nonneg (by omega)] at hz; subst hz)
          | (refine nv (fun z hz => ?_); (try simp at hz); replace hz := hz.symm; subst hz)
          | refine ld1_lit ?_
          | refine st_lit rfl ?_
          | refine need (by first | rfl | omega) ?_
          | (refine wr (fun z hz => ?_); (try rw [Int.tdiv_eq_ediv_of_nonneg (by omega)] at hz); rw [w64 (by omega) (by omega)] at hz; subst hz)
          | (refine ifs (fun h => ?_) (fun h => ?_) <;> (try (exfalso; first | omega | with_reducible contradiction | with_reducible exact h rfl))))
      all_goals (conv => whnf)
      all_goals first
        | exact ⟨rfl, fin_pick (A' := [⟨n, .cells _ 66⟩] ++ R.blk 66 (rl i (slB c))) (takes_all _) ⟨4 - 4, by omega, 4, vs_eq rfl (by omega), by omega, fun p hp hpd => by (by_cases e : p < 3; exact hdv p e hpd; (obtain rfl : p = 3 := by omega); first | exact hv | (rw [hd] at hpd; cases hpd)), rfl, by simp [hd, hv]⟩⟩
        | exact fin_rbF (hno fun h => by have : bt x1 7 = true := h.1 3 (by omega) hd; rw [hv] at this; cases this)
    · obtain ⟨k8, h8⟩ := isF_ex (fun j => (slB c j).g = (x0.toNat : Int) - 1 ∧ 0 ≤ (x0.toNat : Int) - 1) i
      have hk8 := h8.1
      have hQt : (x0.toNat : Int) - 1 < 16 → (x2.toNat : Int) < 4 → ¬ ((x0.toNat : Int) - 1 < 0 ∧ (0 < (x1.toNat : Int) ∨ 0 < (x2.toNat : Int))) → ¬ k8 < i → okQ c i := fun q1 q2 q3 q4 => by
        rw [hQ]
        exact ⟨hdv, q3, by omega, by omega, fun ⟨j, hj, w1, w2⟩ => h8.2.1 j (by omega) ⟨w1, w2⟩⟩
      have hQf : k8 < i → ¬ okQ c i := fun q4 h => by
        rw [hQ] at h
        exact h.2.2.2.2 ⟨k8, q4, h8.2.2 q4⟩
      rw [← hQ] at hno
      obtain ⟨fv, hfv, hf⟩ : ∃ fv : Int, (0 ≤ fv ↔ k8 < i) ∧ Fnc Tryz.prog 64 [R.val i, .int .i64 ((x0.toNat : Int) - 1)] (R.blk 66 (rl i (slB c))) (Ret (.int .i64 fv) (R.blk 66 (rl i (slB c)))) := by
        rcases R with _ | ⟨g, cap, junk2⟩
        · have hi0 : i = 0 := by
            have := hR.2
            simpa using this
          subst hi0
          exact ⟨-1, by omega, rfind0 ((x0.toNat : Int) - 1)⟩
        · refine ⟨_, ?_, rfind g i cap (slB c) junk2 ((x0.toNat : Int) - 1) (by omega) k8 h8⟩
          by_cases hki : k8 < i
          · rw [if_pos hki]; omega
          · rw [if_neg hki]; omega
      repeat' ((conv => whnf); first
          | (refine zv (fun z hz => ?_); rw [t1, z1] at hz; subst hz)
          | (refine call_ret hf (takes_tail _ _) ?_; rw [appM_eq])
          | refine app_wide (S := R) (n := i) (m := 1) (sz := 10) (e := 66) (xs := rl i (slB c)) (news := [.int .i64 ((x0.toNat : Int) - 1), .bool (bt x1 4), .bool (bt x1 5), .bool (bt x1 6), .bool (bt x1 7), .bool (bt x1 0), .bool (bt x1 1), .bool (bt x1 2), .bool (bt x1 3), .int .i64 (x2.toNat : Int)]) rfl rfl rfl rfl rfl hR rfl (by omega) (sc_one ⟨_, fun k => bt x1 (4 + k), fun k => bt x1 k, _⟩) (by show (i + 1) * 24 ≤ _; omega) (by omega) (Ev.cells_from rfl) (fun R' hR' => ?_)
          | refine ld1_lit ?_
          | refine ldN_lit ?_
          | refine nw (fun n => ?_)
          | refine bld ?_
          | refine need (by first | rfl | omega) ?_
          | (refine wr (fun z hz => ?_); (try rw [Int.tdiv_eq_ediv_of_nonneg (by omega)] at hz); rw [w64 (by omega) (by omega)] at hz; subst hz)
          | (refine ifs (fun h => ?_) (fun h => ?_) <;> (try (exfalso; first | omega | with_reducible contradiction | with_reducible exact h rfl))))
      all_goals (conv => whnf)
      all_goals first
        | exact fin_rbF (hno (hQf (hfv.1 (by assumption))))
        | exact fin_rbF (hno fun h => by rw [hQ] at h; first | omega | exact h.2.1 ⟨by omega, by omega⟩)
        | skip
      all_goals refine ⟨rfl, ?_⟩
      all_goals (refine fin_drop (fin_pick (takes_left _ _) ⟨q - (i + 1), by omega, i + 1, R', rfl, by omega, ?_, ?_, rfl, ?_⟩))
      all_goals first
        | exact fun j hj => (by by_cases e : j < i; exact hok j e; (obtain rfl : j = i := (by omega)); exact hQt (by omega) (by omega) (by omega) (by omega))
        | (rw [rl_succ]; subst e0; subst e1; subst e2; exact hR')
        | (rw [rl_succ]; subst e0; subst e1; subst e2; rfl)
  · obtain rfl : i = q := by omega
    rcases R with _ | ⟨g, cap, junk2⟩
    · exfalso
      have := hR.2
      simp at this
      omega
    · have hW : ∀ j, j < 8 → okS (cutS c i j) := fun j hj => by
        unfold cutS
        by_cases h : j < i
        · rw [if_pos h]
          have h1 := hok j h
          have h2 := slB_bd c j
          unfold okQ at h1
          unfold okS
          omega
        · rw [if_neg h]; exact okS_free
      have hrl : rl i (slB c) = rl i (cutS c i) := rl_congr' fun j hj => by unfold cutS; rw [if_pos hj]
      rw [hrl]
      repeat' ((conv => whnf); first
          | refine call_ret (rbytes g i cap (cutS c i) junk2 hq1 hq8 hW) (.cons (by first | exact .here | exact .there .here | exact .there (.there .here) | exact .there (.there (.there .here)) | exact .there (.there (.there (.there .here))) | exact .there (.there (.there (.there (.there .here)))) | exact .there (.there (.there (.there (.there (.there .here)))))) .nil) ?_
          | (refine ifs (fun h => ?_) (fun h => ?_) <;> (try (exfalso; first | omega | with_reducible contradiction | with_reducible exact h rfl))))
      all_goals (conv => whnf)
      all_goals first
        | exact fin_rbF (fun h => absurd h.2 (by assumption))
        | exact fin_pick (.cons (by first | exact .here | exact .there .here | exact .there (.there .here) | exact .there (.there (.there .here)) | exact .there (.there (.there (.there .here))) | exact .there (.there (.there (.there (.there .here)))) | exact .there (.there (.there (.there (.there (.there .here)))))) .nil) (.inl ⟨⟨hok, by assumption⟩, g, cap, junk2, rfl, rfl⟩)
end Go.Proofs.YtkjamonkohpcnaaGreat.Slots
/- The law MetaTampers: its Go function returns true. -/
namespace Go.Proofs.YtkjamonkohpcnaaGreat.Mt
open Go Ev Sha Aes Orc Node Rec Chn Jrn Cau Sto Ivs Ctr Aut Stg Bgn Wld Cmt
open Rig (Fnc_takeR RigP Rg rgM z64 app_of RigA)
open Tree (TreP TreA Tre treM TI Same updB)
open Slots (By S48 RdQ RA RB RbQ tB slB sBy okS okR Right busyB usedB cnt Sl10 upd takeS setD setV freeS sc IsF cutS lb lv rl ll_part)
set_option linter.unusedVariables false
set_option linter.unusedSimpArgs false
set_option maxRecDepth 100000
theorem busy_congr {x y : Sl10} (h : sc x = sc y) : busyB x = busyB y := by
  obtain ⟨_, _, hd, _⟩ := Slots.sc_parts h
  unfold busyB; rw [hd 0 (by omega), hd 1 (by omega), hd 2 (by omega), hd 3 (by omega)]
theorem cnt_congr {p p' : Nat → Bool} : ∀ {n : Nat}, (∀ j, j < n → p j = p' j) → cnt p n = cnt p' n
  | 0, _ => rfl
  | n + 1, h => by unfold cnt; rw [cnt_congr (n := n) fun j hj => h j (by omega), h n (by omega)]
theorem cnt_rest {p : Nat → Bool} {q : Nat} : ∀ (k : Nat), (∀ j, q ≤ j → p j = false) → cnt p (q + k) = cnt p q
  | 0, _ => rfl
  | k + 1, h => by
    show cnt p (q + k) + (if p (q + k) then 1 else 0) = _
    rw [cnt_rest k h, h (q + k) (by omega)]; rfl
theorem cnt_cut {c : By} {q : Nat} (hq : q ≤ 8) (h : Right q (slB c)) : cnt (fun j => busyB (slB c j)) 8 = cnt (fun j => busyB (cutS c q j)) q := by
  have h1 : cnt (fun j => busyB (slB c j)) 8 = cnt (fun j => busyB (cutS c q j)) 8 := cnt_congr fun j hj => busy_congr (Slots.cut_same (Slots.right_rest h) j hj)
  have h2 := cnt_rest (p := fun j => busyB (cutS c q j)) (q := q) (8 - q) (fun j hj => by
    show busyB (cutS c q j) = false
    unfold cutS; rw [if_neg (by omega)]; rfl)
  rw [h1, ← h2, show q + (8 - q) = 8 by omega]
theorem cnt_0 (p : Nat → Bool) : cnt p 0 = 0 := rfl
theorem cnt_s (p : Nat → Bool) (n : Nat) : cnt p (n + 1) = cnt p n + (if p n then 1 else 0) := rfl
theorem full_48 {s : ByteArray} (h : s.size ≤ 48) : (Be.full s 48).size = 48 := by
  unfold Be.full
  split
  · omega
  · rw [ByteArray.size_append, Ev.str_size, List.length_replicate]; omega
theorem bytes_ra {c : By} {q : Nat} (hR : RA c q) (r : Nat) : Fnc Tryz.prog 27 [pt r] [tB r q (slB c)] (Ret (.string (S48 c)) [tB r q (slB c)]) := by
  have hG := Slots.right_good hR.1
  have hsb : sBy (cutS c q) = S48 c := by rw [← hR.2]; exact (Slots.sBy_congr (Slots.cut_same (Slots.right_rest hR.1))).symm
  have h := Slots.bytes r q (cutS c q) hG.2.1
  rw [hsb, show tB r q (cutS c q) = tB r q (slB c) by unfold Slots.tB; rw [Slots.right_tc hR.1]] at h
  exact h
section
variable {a : RigA} {A : StoA} {B : VA} {on : Nat} {S : Sy} {f0 f1 : Nat → ByteArray} {m b : Nat} {N : Int}
theorem loadX (h : WJ a A on S f0 f1 m b N) (hf : FB f0 ∧ FB f1) (hb : b ≤ 1099511610000) (c : By) (q : Nat) (hq : 1 ≤ q ∧ q ≤ 8) (hg : S.V.g1 = q) (hc : dat S.v.k (f1 63) = S48 c) (hl : ¬ LdQ c q S.V.is.dirty) :
    Fnc Tryz.prog 24 [pt B.vn] (syM a A B S) (fun e M => ∃ S', e = .returned (.tuple #[.pointer none, .int .i64 12]) ∧ M = syM a A B S') :=
  Fnc_mono (loadJ h hf hb c q hq hg hc) fun e M ⟨S', h1, h2⟩ => by
    rcases h2 with ⟨hn, _⟩ | ⟨_, h3, h4⟩
    · exact absurd hn hl
    · exact ⟨S', h3, h4⟩
end
attribute [local irreducible] dgV D jC wrF rcC stC regC RgV.lay rgM syM S48 sBy RA RB LdQ slB cutS fmV0 fmR rl cnt Be.full
set_option maxHeartbeats 8000000 in
theorem metaTampers (n : Int) (s : ByteArray) (dy : Int) (n0 : 0 ≤ n) (n1 : n ≤ 255) (d0 : 0 ≤ dy) (d1 : dy ≤ 255) (hs : s.size ≤ 140737488355328) : Fnc Tryz.prog 4 [.int .u8 n, .string s, .int .u8 dy] [] (Ret (.bool true) []) := by
  obtain ⟨q, hq⟩ := Int.eq_ofNat_of_zero_le (show 0 ≤ n % 8 + 1 by omega)
  have hq1 : 1 ≤ q := by omega
  have hq8 : q ≤ 8 := by omega
  have hbg := begunN (n % 8 + 1) ⟨by omega, by omega⟩
  by_cases h48 : 48 < s.size
  · refine fn_intro Tryz.func4 (by kernel_rfl) ?_
    repeat' ((conv => whnf); first
        | (refine call_g hbg .nil (fun e A' hq => ?_); obtain ⟨a, A, B, S, hj, hr, hV, hv, e1, e2⟩ := hq; subst e1; subst e2)
        | refine call_val awake_ ?_
        | refine need (by first | rfl | omega) ?_
        | (refine wr (fun z hz => ?_); (try rw [Int.tdiv_eq_ediv_of_nonneg (by omega)] at hz); rw [w64 (by omega) (by omega)] at hz; subst hz)
        | (refine zv (fun z hz => ?_); (try rw [Int.tmod_eq_emod_of_nonneg (by omega)] at hz); subst hz)
        | (refine ifs (fun h => ?_) (fun h => ?_) <;> (try (exfalso; first | omega | with_reducible contradiction | with_reducible exact h rfl))))
    all_goals (conv => whnf)
    all_goals first | (exfalso; omega) | exact fin_nil ⟨rfl, rfl⟩
  have hfull := Be.full01 s 48 (by omega) hs
  obtain ⟨c, hc⟩ := Slots.S48_of (full_48 (s := s) (by omega))
  rw [hc] at hfull
  refine fn_intro Tryz.func4 (by kernel_rfl) ?_
  repeat' ((conv => whnf); first
      | (refine call_g hbg .nil (fun e A' hq => ?_); obtain ⟨a, A, B, S, hj, hr, hV, hv, e1, e2⟩ := hq; subst e1; subst e2)
      | refine call_val awake_ ?_
      | refine call_val hfull ?_
      | refine need (by first | rfl | omega) ?_
      | (refine wr (fun z hz => ?_); (try rw [Int.tdiv_eq_ediv_of_nonneg (by omega)] at hz); rw [w64 (by omega) (by omega)] at hz; subst hz)
      | (refine zv (fun z hz => ?_); (try rw [Int.tmod_eq_emod_of_nonneg (by omega)] at hz); subst hz)
      | (refine ifs (fun h => ?_) (fun h => ?_) <;> (try (exfalso; first | omega | with_reducible contradiction | with_reducible exact h rfl))))
  all_goals (conv => whnf)
  have hg : S.V.g1 = (q : Int) := by rw [hV, ← hq]; unfold fmV0; rfl
  have hp := w_plainJ (B := B) hj (d := 1) (l := 63) (s := S48 c) (.inr rfl) (by omega) (Slots.S48_size c) (by omega) (by omega)
  rw [up0_1, up1_1] at hp
  repeat' ((conv => whnf); first
      | (refine call_a hp (.one takeE) (fun S1 hS1 => ?_); obtain ⟨hj1, hv1, hm1⟩ := hS1))
  all_goals (conv => whnf)
  have hk : (S1.V.is.say (dy % 3) 0).ok := say_dm hj1.wi.vok.reg hj1.wi.vok.att (by omega)
  have h8 := w_say (B := B) hj1.wi (d := dy % 3) (md := 0) hk
  have hw1 := w_store (a := a) (A := A) (B := B) (S := S1)
  have hw2 := w_store (a := a) (A := A) (B := B) (S := S1.say (dy % 3) 0)
  have h9 := w_commit (B := B) (wj_say hj1 hk) (by omega) (by omega) (by omega)
  repeat' ((conv => whnf); first
      | refine call_gr hw1 (.one takeE) ?_
      | refine call_gr hw2 (.one takeE) ?_
      | refine call_gr h8 (.one takeE) ?_
      | (refine call_g h9 (.one takeE) (fun e A' hq => ?_); obtain ⟨A3, S3, ha3, k3, e1, e2⟩ := hq; subst e1; subst e2))
  all_goals (conv => whnf)
  have hd3 : S3.V.is.dirty = dy % 3 := k3.dy.1
  have hg3 : S3.V.g1 = (q : Int) := k3.g.2.1.trans (hm1.g1.trans hg)
  have hda : dat S3.v.k (updB (fun _ => z64) 63 (layB 0 2 (S48 c)) 63) = S48 c := by rw [upd_63]; exact dat_p _ _
  have hrr := Slots.rread c q hq1 hq8
  rw [← hq] at hrr
  have hiff := Slots.reads_iff (c := c) hq8
  by_cases hR : RA c q
  · have hR2 := hR
    unfold RA at hR2
    have hcut := cnt_cut hq8 hR2.1
    by_cases hL : LdQ c q (dy % 3)
    · have hcn : (cnt (fun j => busyB (cutS c q j)) q : Int) = dy % 3 := by
        rw [← hcut]; unfold LdQ at hL; exact hL.2
      have hl := loadY (B := B) k3.wj ⟨fb_z, fb_p c⟩ (by omega) c q ⟨hq1, hq8⟩ hg3 hda (by rw [hd3]; exact hL)
      have hbt := bytes_ra hR
      repeat' ((conv => whnf); first
          | (refine call_g hl (.one takeE) (fun e A' hq => ?_); obtain ⟨S4, r4, ⟨hj4, hv4, hm4⟩, e1, e2⟩ := hq; subst e1; subst e2))
      all_goals (conv => whnf)
      repeat' ((conv => whnf); first
          | (refine call_g hrr .nil (fun e A' hq => ?_); rcases hq with ⟨_, g, cap, junk, z1, z2⟩ | ⟨hno, _⟩; rotate_left; exact absurd (hiff.1 hR) hno; subst z1; subst z2))
      all_goals (conv => whnf)
      refine loop_rule [19, 20] (fun vs M m => ∃ i : Nat, vs = [.int .i64 (cnt (fun j => busyB (cutS c q j)) i : Nat), .int .i64 i] ∧ i ≤ q ∧ m = q - i ∧ M = lb g q (cutS c q) junk :: (syM a A3 B S4 ++ [tB r4 q (slB c)])) rfl ?_ ?_
      · exact fin_g (A := lb g q (cutS c q) junk :: (syM a A3 B S4 ++ [tB r4 q (slB c)])) (.blk takeC (.grp takeE (.blk takeC .nil))) ⟨_, 0, by rw [cnt_0]; rfl, by omega, rfl, rfl⟩
      rintro vs junk2 M' m ⟨i, rfl, hi, rfl, rfl⟩
      have hle := Slots.cnt_le (fun j => busyB (cutS c q j)) i
      by_cases hiq : i < q
      · have hrb := Slots.rbusy (cutS c q i)
        have hs9 : cnt (fun j => busyB (cutS c q j)) (i + 1) = cnt (fun j => busyB (cutS c q j)) i + (if busyB (cutS c q i) = true then 1 else 0) := cnt_s _ i
        rcases (show busyB (cutS c q i) = true ∨ busyB (cutS c q i) = false by cases busyB (cutS c q i) <;> simp) with hb | hb
        all_goals rw [hb] at hrb hs9
        all_goals repeat' ((conv => whnf); first
            | (refine nv (fun z hz => ?_); (try simp at hz); replace hz := hz.symm; subst hz)
            | refine ldN_row (n := g) (sc (cutS c q i)) (ll_part (by omega)) rfl ?_
            | refine call_val hrb ?_
            | refine need (by first | rfl | omega) ?_
            | (refine wr (fun z hz => ?_); (try rw [Int.tdiv_eq_ediv_of_nonneg (by omega)] at hz); rw [w64 (by omega) (by omega)] at hz; subst hz)
            | (refine ifs (fun h => ?_) (fun h => ?_) <;> (try (exfalso; first | omega | with_reducible contradiction | with_reducible exact h rfl))))
        all_goals (conv => whnf)
        · exact ⟨rfl, fin_all ⟨q - (i + 1), by omega, i + 1, by rw [hs9]; rfl, by omega, rfl, rfl⟩⟩
        · exact ⟨rfl, fin_all ⟨q - (i + 1), by omega, i + 1, by rw [hs9]; rfl, by omega, rfl, rfl⟩⟩
      obtain rfl : i = q := by omega
      rw [hcn]
      repeat' ((conv => whnf); first
          | refine call_gr (hbt _) (.blk takeC .nil) ?_
          | (refine ifs (fun h => ?_) (fun h => ?_) <;> (try (exfalso; first | omega | with_reducible contradiction | with_reducible exact h rfl))))
      all_goals (conv => whnf)
      all_goals first | (exfalso; omega) | exact fin_nil ⟨Slots.ret_bool rfl, rfl⟩ | exact fin_nil ⟨rfl, rfl⟩
    · have hcn : ¬ (cnt (fun j => busyB (cutS c q j)) q : Int) = dy % 3 := fun h => hL (by rw [← hcut] at h; unfold LdQ; exact ⟨hR, h⟩)
      have hl := loadX (B := B) k3.wj ⟨fb_z, fb_p c⟩ (by omega) c q ⟨hq1, hq8⟩ hg3 hda (by rw [hd3]; exact hL)
      repeat' ((conv => whnf); first
          | (refine call_g hl (.one takeE) (fun e A' hq => ?_); obtain ⟨S4, e1, e2⟩ := hq; subst e1; subst e2))
      all_goals (conv => whnf)
      repeat' ((conv => whnf); first
          | (refine call_g hrr .nil (fun e A' hq => ?_); rcases hq with ⟨_, g, cap, junk, z1, z2⟩ | ⟨hno, _⟩; rotate_left; exact absurd (hiff.1 hR) hno; subst z1; subst z2))
      all_goals (conv => whnf)
      refine loop_rule [19, 20] (fun vs M m => ∃ i : Nat, vs = [.int .i64 (cnt (fun j => busyB (cutS c q j)) i : Nat), .int .i64 i] ∧ i ≤ q ∧ m = q - i ∧ M = lb g q (cutS c q) junk :: syM a A3 B S4) rfl ?_ ?_
      · exact fin_g (A := lb g q (cutS c q) junk :: syM a A3 B S4) (.blk takeC (.one takeE)) ⟨_, 0, by rw [cnt_0]; rfl, by omega, rfl, rfl⟩
      rintro vs junk2 M' m ⟨i, rfl, hi, rfl, rfl⟩
      have hle := Slots.cnt_le (fun j => busyB (cutS c q j)) i
      by_cases hiq : i < q
      · have hrb := Slots.rbusy (cutS c q i)
        have hs9 : cnt (fun j => busyB (cutS c q j)) (i + 1) = cnt (fun j => busyB (cutS c q j)) i + (if busyB (cutS c q i) = true then 1 else 0) := cnt_s _ i
        rcases (show busyB (cutS c q i) = true ∨ busyB (cutS c q i) = false by cases busyB (cutS c q i) <;> simp) with hb | hb
        all_goals rw [hb] at hrb hs9
        all_goals repeat' ((conv => whnf); first
            | (refine nv (fun z hz => ?_); (try simp at hz); replace hz := hz.symm; subst hz)
            | refine ldN_row (n := g) (sc (cutS c q i)) (ll_part (by omega)) rfl ?_
            | refine call_val hrb ?_
            | refine need (by first | rfl | omega) ?_
            | (refine wr (fun z hz => ?_); (try rw [Int.tdiv_eq_ediv_of_nonneg (by omega)] at hz); rw [w64 (by omega) (by omega)] at hz; subst hz)
            | (refine ifs (fun h => ?_) (fun h => ?_) <;> (try (exfalso; first | omega | with_reducible contradiction | with_reducible exact h rfl))))
        all_goals (conv => whnf)
        · exact ⟨rfl, fin_all ⟨q - (i + 1), by omega, i + 1, by rw [hs9]; rfl, by omega, rfl, rfl⟩⟩
        · exact ⟨rfl, fin_all ⟨q - (i + 1), by omega, i + 1, by rw [hs9]; rfl, by omega, rfl, rfl⟩⟩
      obtain rfl : i = q := by omega
      repeat' ((conv => whnf); first
          | (refine ifs (fun h => ?_) (fun h => ?_) <;> (try (exfalso; first | omega | with_reducible contradiction | with_reducible exact h rfl))))
      all_goals (conv => whnf)
      all_goals first | (exfalso; omega) | (exfalso; exact hcn (by assumption)) | (exfalso; exact absurd hcn (by assumption)) | exact fin_nil ⟨Slots.ret_bool rfl, rfl⟩ | exact fin_nil ⟨rfl, rfl⟩
  · have hL : ¬ LdQ c q (dy % 3) := fun h => hR (by unfold LdQ at h; exact h.1)
    have hl := loadX (B := B) k3.wj ⟨fb_z, fb_p c⟩ (by omega) c q ⟨hq1, hq8⟩ hg3 hda (by rw [hd3]; exact hL)
    repeat' ((conv => whnf); first
        | (refine call_g hl (.one takeE) (fun e A' hq => ?_); obtain ⟨S4, e1, e2⟩ := hq; subst e1; subst e2))
    all_goals (conv => whnf)
    repeat' ((conv => whnf); first
        | (refine call_g hrr .nil (fun e A' hq => ?_); rcases hq with ⟨hyes, _⟩ | ⟨_, z1, z2⟩; exact absurd (hiff.2 hyes) hR; subst z1; subst z2))
    all_goals (conv => whnf)
    refine loop_rule [19, 20] (fun vs M m => vs = [.int .i64 0, .int .i64 0] ∧ m = 0 ∧ M = syM a A3 B S4) rfl ?_ ?_
    · exact fin_g (A := syM a A3 B S4) (.one takeE) ⟨_, rfl, rfl, rfl⟩
    rintro vs junk2 M' m ⟨rfl, rfl, rfl⟩
    repeat' ((conv => whnf); first
        | (refine ifs (fun h => ?_) (fun h => ?_) <;> (try (exfalso; first | omega | with_reducible contradiction | with_reducible exact h rfl))))
    all_goals (conv => whnf)
    all_goals first | (exfalso; omega) | exact fin_nil ⟨Slots.ret_bool rfl, rfl⟩ | exact fin_nil ⟨rfl, rfl⟩
end Go.Proofs.YtkjamonkohpcnaaGreat.Mt
