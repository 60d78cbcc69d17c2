/- The document's bytes of a list of slots. -/
import Derived.Test.YtkjamonkohpcnaaGreatMz25
import Derived.Test.YtkjamonkohpcnaaGreatMz4
namespace Go.Proofs.YtkjamonkohpcnaaGreat.Slots
open Go Ev Be
set_option linter.unusedVariables false
set_option linter.unusedSimpArgs false
set_option maxRecDepth 100000
theorem wb {x : Int} (h0 : 0 ≤ x) (h1 : x ≤ 255) : IntKind.u8.wrap x = ((by1 x).toNat : Int) := by
  rw [IntKind.wrap_u8]
  unfold by1
  rw [UInt8.toNat_ofNat']
  omega
theorem ll_get' {n i k off : Nat} {s : Nat → Sl10} {junk : List Value} {v : Value} (ho : off = i * 10 + k) (hi : i < n) (hk : k < 10) (hv : (sc (s i))[k]? = some v) : (rl n s ++ junk)[off]? = some v := by
  rw [ho, ll_get hi hk, hv]
def pw (k : Nat) : Int := if k = 0 then 1 else if k = 1 then 2 else if k = 2 then 4 else if k = 3 then 8 else 16
theorem biX_k (x : Sl10) {k : Nat} (h : k < 5) : 0 ≤ biX x k ∧ biX x k ≤ 255 := bu_bd _ _ _ _ _ _ _ _ k h
theorem biX_0 (x : Sl10) : biX x 0 = 0 := by
  have : ∀ v0 v1 v2 v3 d0 d1 d2 d3 : Bool, bu v0 v1 v2 v3 d0 d1 d2 d3 0 = 0 := by decide +kernel
  exact this _ _ _ _ _ _ _ _
theorem biX_n0 (x : Sl10) : biX x 1 = biX x 0 + (if x.v 0 then 16 else 0) + (if x.d 0 then 1 else 0) := by
  have : ∀ v0 v1 v2 v3 d0 d1 d2 d3 : Bool, bu v0 v1 v2 v3 d0 d1 d2 d3 1 = bu v0 v1 v2 v3 d0 d1 d2 d3 0 + (if v0 then 16 else 0) + (if d0 then 1 else 0) := by decide +kernel
  exact this _ _ _ _ _ _ _ _
theorem biX_n1 (x : Sl10) : biX x 2 = biX x 1 + (if x.v 1 then 32 else 0) + (if x.d 1 then 2 else 0) := by
  have : ∀ v0 v1 v2 v3 d0 d1 d2 d3 : Bool, bu v0 v1 v2 v3 d0 d1 d2 d3 2 = bu v0 v1 v2 v3 d0 d1 d2 d3 1 + (if v1 then 32 else 0) + (if d1 then 2 else 0) := by decide +kernel
  exact this _ _ _ _ _ _ _ _
theorem biX_n2 (x : Sl10) : biX x 3 = biX x 2 + (if x.v 2 then 64 else 0) + (if x.d 2 then 4 else 0) := by
  have : ∀ v0 v1 v2 v3 d0 d1 d2 d3 : Bool, bu v0 v1 v2 v3 d0 d1 d2 d3 3 = bu v0 v1 v2 v3 d0 d1 d2 d3 2 + (if v2 then 64 else 0) + (if d2 then 4 else 0) := by decide +kernel
  exact this _ _ _ _ _ _ _ _
theorem biX_n3 (x : Sl10) : biX x 4 = biX x 3 + (if x.v 3 then 128 else 0) + (if x.d 3 then 8 else 0) := by
  have : ∀ v0 v1 v2 v3 d0 d1 d2 d3 : Bool, bu v0 v1 v2 v3 d0 d1 d2 d3 4 = bu v0 v1 v2 v3 d0 d1 d2 d3 3 + (if v3 then 128 else 0) + (if d3 then 8 else 0) := by decide +kernel
  exact this _ _ _ _ _ _ _ _
abbrev bL (s : Nat → Sl10) (i : Nat) : List UInt8 := (rowI s i).map by1
theorem bL_len (s : Nat → Sl10) (i : Nat) : (bL s i).length = 4 * i := by rw [List.length_map, rowI_len]
theorem bL_next (s : Nat → Sl10) (i : Nat) : u8s (bL s (i + 1)) = u8s (bL s i) ++ [.int .u8 ((by1 ((s i).g + 1)).toNat : Int), .int .u8 ((by1 (biX (s i) 4)).toNat : Int), .int .u8 ((by1 (s i).lv).toNat : Int), .int .u8 0] := by
  show u8s (List.map by1 (rowI s i ++ sNum (s i))) = _
  rw [List.map_append, u8s_append]
  rfl
attribute [local irreducible] rl tc bu biX rowI rowE rowS padE padS by1 pw full convert Builtin.copy_ Builtin.append_ Instr.makeSlice
set_option maxHeartbeats 4000000 in
theorem rbytes (g q cap : Nat) (s : Nat → Sl10) (junk : List Value) (hq1 : 1 ≤ q) (hq : q ≤ 8) (hW : ∀ j, j < 8 → okS (s j)) : Fnc Tryz.prog 65 [lv g q cap] [lb g q s junk] (Ret (.string (full (str (bL s q)) 48)) [lb g q s junk]) := by
  refine fn_intro Tryz.func65 (by kernel_rfl) ?_
  repeat' ((conv => whnf); first
      | refine loop_rule [4, 3] (fun vs M m => ∃ (i : Nat) (R : Own), vs = [.int .i64 i, R.val (4 * i)] ∧ i ≤ q ∧ R.ok 1 (4 * i) (u8s (bL s i)) ∧ m = q - i ∧ M = R.blk 5 (u8s (bL s i)) ++ [lb g q s junk]) rfl ?_ ?_)
  · exact fin_all ⟨_, 0, .nil, rfl, by omega, ⟨by rw [show (u8s (bL s 0)).length = (bL s 0).length by simp [u8s], bL_len], rfl⟩, rfl, rfl⟩
  rintro vs junk1 M' m ⟨i, R, rfl, hi, hR, rfl, rfl⟩
  have hL := bL_len s i
  repeat' ((conv => whnf); first
      | refine loop_rule [7, 5, 6] (fun vs M m => ∃ k : Nat, vs = [.int .i64 k, .int .i64 (biX (s i) k), .int .i64 (pw k)] ∧ k ≤ 4 ∧ m = 4 - k ∧ M = R.blk 5 (u8s (bL s i)) ++ [lb g q s junk]) rfl ?_ ?_
      | (refine ifs (fun h => ?_) (fun h => ?_) <;> (try (exfalso; first | omega | with_reducible contradiction | with_reducible exact h rfl))))
  · exact fin_all ⟨_, 0, by rw [biX_0, show pw 0 = 1 by unfold pw; rfl]; rfl, by omega, rfl, rfl⟩
  · rintro vs junk2 M' m ⟨k, rfl, hk, rfl, rfl⟩
    have hb := biX_k (s i) (k := k) (by omega)
    have hcase : k = 0 ∨ k = 1 ∨ k = 2 ∨ k = 3 ∨ k = 4 := by omega
    rcases hcase with rfl | rfl | rfl | rfl | rfl
    · rw [show pw 0 = 1 by unfold pw; rfl]
      rcases hv : (s i).v 0 <;> rcases hd : (s i).d 0
      all_goals have hn := biX_n0 (s i)
      all_goals rw [hv, hd] at hn
      all_goals repeat' ((conv => whnf); first
          | (refine nv (fun z hz => ?_); (try simp at hz); replace hz := hz.symm; subst hz)
          | refine ld1_row (v := .bool true) (ll_get' (i := i) (k := 1) (by omega) (by omega) (by omega) (congrArg (fun b => some (Value.bool b)) hv)) ?_
          | refine ld1_row (v := .bool false) (ll_get' (i := i) (k := 1) (by omega) (by omega) (by omega) (congrArg (fun b => some (Value.bool b)) hv)) ?_
          | refine ld1_row (v := .bool true) (ll_get' (i := i) (k := 5) (by omega) (by omega) (by omega) (congrArg (fun b => some (Value.bool b)) hd)) ?_
          | refine ld1_row (v := .bool false) (ll_get' (i := i) (k := 5) (by omega) (by omega) (by omega) (congrArg (fun b => some (Value.bool b)) hd)) ?_
          | refine need (by first | rfl | omega) ?_
          | (refine wr (fun z hz => ?_); (try rw [Int.tdiv_eq_ediv_of_nonneg (by omega)] at hz); rw [w64 (by omega) (by omega)] at hz; subst hz)
          | (refine ifs (fun h => ?_) (fun h => ?_) <;> (try (exfalso; first | omega | with_reducible contradiction | with_reducible exact h rfl))))
      all_goals (conv => whnf)
      all_goals first | done | refine ⟨rfl, fin_all ⟨4 - 1, by omega, 1, ?_, by omega, rfl, rfl⟩⟩
      all_goals (rw [hn, show pw 1 = 2 by unfold pw; rfl]; simp)
    · rw [show pw 1 = 2 by unfold pw; rfl]
      rcases hv : (s i).v 1 <;> rcases hd : (s i).d 1
      all_goals have hn := biX_n1 (s i)
      all_goals rw [hv, hd] at hn
      all_goals repeat' ((conv => whnf); first
          | (refine nv (fun z hz => ?_); (try simp at hz); replace hz := hz.symm; subst hz)
          | refine ld1_row (v := .bool true) (ll_get' (i := i) (k := 2) (by omega) (by omega) (by omega) (congrArg (fun b => some (Value.bool b)) hv)) ?_
          | refine ld1_row (v := .bool false) (ll_get' (i := i) (k := 2) (by omega) (by omega) (by omega) (congrArg (fun b => some (Value.bool b)) hv)) ?_
          | refine ld1_row (v := .bool true) (ll_get' (i := i) (k := 6) (by omega) (by omega) (by omega) (congrArg (fun b => some (Value.bool b)) hd)) ?_
          | refine ld1_row (v := .bool false) (ll_get' (i := i) (k := 6) (by omega) (by omega) (by omega) (congrArg (fun b => some (Value.bool b)) hd)) ?_
          | refine need (by first | rfl | omega) ?_
          | (refine wr (fun z hz => ?_); (try rw [Int.tdiv_eq_ediv_of_nonneg (by omega)] at hz); rw [w64 (by omega) (by omega)] at hz; subst hz)
          | (refine ifs (fun h => ?_) (fun h => ?_) <;> (try (exfalso; first | omega | with_reducible contradiction | with_reducible exact h rfl))))
      all_goals (conv => whnf)
      all_goals first | done | refine ⟨rfl, fin_all ⟨4 - 2, by omega, 2, ?_, by omega, rfl, rfl⟩⟩
      all_goals (rw [hn, show pw 2 = 4 by unfold pw; rfl]; simp)
    · rw [show pw 2 = 4 by unfold pw; rfl]
      rcases hv : (s i).v 2 <;> rcases hd : (s i).d 2
      all_goals have hn := biX_n2 (s i)
      all_goals rw [hv, hd] at hn
      all_goals repeat' ((conv => whnf); first
          | (refine nv (fun z hz => ?_); (try simp at hz); replace hz := hz.symm; subst hz)
          | refine ld1_row (v := .bool true) (ll_get' (i := i) (k := 3) (by omega) (by omega) (by omega) (congrArg (fun b => some (Value.bool b)) hv)) ?_
          | refine ld1_row (v := .bool false) (ll_get' (i := i) (k := 3) (by omega) (by omega) (by omega) (congrArg (fun b => some (Value.bool b)) hv)) ?_
          | refine ld1_row (v := .bool true) (ll_get' (i := i) (k := 7) (by omega) (by omega) (by omega) (congrArg (fun b => some (Value.bool b)) hd)) ?_
          | refine ld1_row (v := .bool false) (ll_get' (i := i) (k := 7) (by omega) (by omega) (by omega) (congrArg (fun b => some (Value.bool b)) hd)) ?_
          | refine need (by first | rfl | omega) ?_
          | (refine wr (fun z hz => ?_); (try rw [Int.tdiv_eq_ediv_of_nonneg (by omega)] at hz); rw [w64 (by omega) (by omega)] at hz; subst hz)
          | (refine ifs (fun h => ?_) (fun h => ?_) <;> (try (exfalso; first | omega | with_reducible contradiction | with_reducible exact h rfl))))
      all_goals (conv => whnf)
      all_goals first | done | refine ⟨rfl, fin_all ⟨4 - 3, by omega, 3, ?_, by omega, rfl, rfl⟩⟩
      all_goals (rw [hn, show pw 3 = 8 by unfold pw; rfl]; simp)
    · rw [show pw 3 = 8 by unfold pw; rfl]
      rcases hv : (s i).v 3 <;> rcases hd : (s i).d 3
      all_goals have hn := biX_n3 (s i)
      all_goals rw [hv, hd] at hn
      all_goals repeat' ((conv => whnf); first
          | (refine nv (fun z hz => ?_); (try simp at hz); replace hz := hz.symm; subst hz)
          | refine ld1_row (v := .bool true) (ll_get' (i := i) (k := 4) (by omega) (by omega) (by omega) (congrArg (fun b => some (Value.bool b)) hv)) ?_
          | refine ld1_row (v := .bool false) (ll_get' (i := i) (k := 4) (by omega) (by omega) (by omega) (congrArg (fun b => some (Value.bool b)) hv)) ?_
          | refine ld1_row (v := .bool true) (ll_get' (i := i) (k := 8) (by omega) (by omega) (by omega) (congrArg (fun b => some (Value.bool b)) hd)) ?_
          | refine ld1_row (v := .bool false) (ll_get' (i := i) (k := 8) (by omega) (by omega) (by omega) (congrArg (fun b => some (Value.bool b)) hd)) ?_
          | refine need (by first | rfl | omega) ?_
          | (refine wr (fun z hz => ?_); (try rw [Int.tdiv_eq_ediv_of_nonneg (by omega)] at hz); rw [w64 (by omega) (by omega)] at hz; subst hz)
          | (refine ifs (fun h => ?_) (fun h => ?_) <;> (try (exfalso; first | omega | with_reducible contradiction | with_reducible exact h rfl))))
      all_goals (conv => whnf)
      all_goals first | done | refine ⟨rfl, fin_all ⟨4 - 4, by omega, 4, ?_, by omega, rfl, rfl⟩⟩
      all_goals (rw [hn, show pw 4 = 16 by unfold pw; rfl]; simp)
    · have hw := hW i (by omega)
      unfold okS at hw
      repeat' ((conv => whnf); first
          | refine draw_any 15 [(0, true), (1, true), (2, true), (3, true), (4, true), (8, true), (9, true), (10, true), (11, true), (12, true), (13, true), (5, true), (6, true), (7, true), (14, false), (15, true), (16, false), (17, false), (18, true)] _ rfl (by kernel_rfl) (kept1 (n := g) ?_)
          | refine kept1 ?_
          | (refine nv (fun z hz => ?_); (try simp at hz); replace hz := hz.symm; subst hz)
          | refine fld1_row (v := .int .i64 (s i).g) (ll_get' (i := i) (k := 0) (by omega) (by omega) (by omega) rfl) ?_
          | refine ld1_row (v := .int .i64 (s i).lv) (ll_get' (i := i) (k := 9) (by omega) (by omega) (by omega) rfl) ?_
          | (refine wr (fun z hz => ?_); rw [wb (by omega) (by omega)] at hz; subst hz)
          | refine app_at (S := R) (n := 4 * i) (e := 5) (xs := u8s (bL s i)) (news := [_, _, _, _]) rfl rfl rfl rfl rfl hR rfl (one4 rfl rfl rfl rfl) (by show (4 * i + 4) * 1 ≤ _; omega) (by omega) (Ev.cells_from rfl) (fun R' hR' => ?_)
          | refine nw (fun n => ?_)
          | refine bld ?_
          | refine need (by first | rfl | omega) ?_
          | (refine wr (fun z hz => ?_); (try rw [Int.tdiv_eq_ediv_of_nonneg (by omega)] at hz); rw [w64 (by omega) (by omega)] at hz; subst hz)
          | (refine ifs (fun h => ?_) (fun h => ?_) <;> (try (exfalso; first | omega | with_reducible contradiction | with_reducible exact h rfl))))
      all_goals (conv => whnf)
      refine ⟨rfl, fin_drop (fin_all ⟨q - (i + 1), by omega, i + 1, R', rfl, by omega, ?_, rfl, ?_⟩)⟩
      · rw [bL_next]; exact hR'
      · rw [bL_next]
  · obtain rfl : i = q := by omega
    repeat' ((conv => whnf); first
        | refine b2s_own (t := 5) (l := bL s i) hR rfl rfl rfl ?_
        | refine call_val (full01 _ 48 (by omega) (by rw [Ev.str_size, bL_len]; omega)) ?_
        | exact fin_look g ⟨rfl, rfl⟩)
end Go.Proofs.YtkjamonkohpcnaaGreat.Slots
/- The law's take. -/
namespace Go.Proofs.YtkjamonkohpcnaaGreat.Slots
open Go Ev Be
set_option linter.unusedVariables false
set_option linter.unusedSimpArgs false
set_option maxRecDepth 100000
/-- What is dirty is valid; a free slot has nothing. -/
def nice (x : Sl10) : Prop := (∀ p, p < 4 → x.d p = true → x.v p = true) ∧ (x.g < 0 → (∀ p, p < 4 → x.v p = false) ∧ x.lv = 0)
def Good (q : Nat) (s : Nat → Sl10) : Prop := (∀ j, q ≤ j → s j = freeS) ∧ (∀ j, j < 8 → okS (s j)) ∧ (∀ j, j < 8 → nice (s j)) ∧ ∀ i j, i < 8 → j < 8 → j ≠ i → 0 ≤ (s i).g → (s j).g ≠ (s i).g
/-- A slot that may be put at i. -/
def okX (s : Nat → Sl10) (i : Nat) (x : Sl10) : Prop := okS x ∧ nice x ∧ (0 ≤ x.g → ∀ j, j < 8 → j ≠ i → (s j).g ≠ x.g)
theorem Good.upd {q i : Nat} {s : Nat → Sl10} {x : Sl10} (h : Good q s) (hi : i < q) (hx : okX s i x) : Good q (upd s i x) := by
  refine ⟨fun j hj => ?_, fun j hj => ?_, fun j hj => ?_, fun a b ha hb hab h0 => ?_⟩
  · show (if j = i then x else s j) = _
    rw [if_neg (by omega)]; exact h.1 j hj
  · show okS (if j = i then x else s j)
    split
    · exact hx.1
    · exact h.2.1 j hj
  · show nice (if j = i then x else s j)
    split
    · exact hx.2.1
    · exact h.2.2.1 j hj
  · change 0 ≤ (if a = i then x else s a).g at h0
    show (if b = i then x else s b).g ≠ (if a = i then x else s a).g
    by_cases e1 : a = i
    · rw [if_pos e1] at h0 ⊢
      rw [if_neg (by omega)]
      exact hx.2.2 h0 b hb (by omega)
    · rw [if_neg e1] at h0 ⊢
      by_cases e2 : b = i
      · rw [if_pos e2]
        intro he
        exact hx.2.2 (by omega) a ha e1 he.symm
      · rw [if_neg e2]
        exact h.2.2.2 a b ha hb hab h0
theorem okS_free : okS freeS := by unfold okS freeS; simp
theorem nice_free : nice freeS := ⟨fun p _ h => (by cases h), fun _ => ⟨fun _ _ => rfl, rfl⟩⟩
theorem ok_free {s : Nat → Sl10} {i : Nat} : okX s i freeS := ⟨okS_free, nice_free, fun h => by have : freeS.g = -1 := rfl; omega⟩
/-- A contract that tells less of memory. -/
theorem Fnc_drop {P : Program} {f : FuncId} {args : List Value} {A : List Blk} {Q Q' : Ending → List Blk → Prop} (h : Fnc P f args A Q) (hq : ∀ e A', Q e A' → Ev.Fin A' (Q' e)) : Fnc P f args A Q' := by
  have := h.out
  delta Fnc
  exact ⟨this.1, fun w hm => (this.2 w hm).mono fun e w' ⟨A', s1, hk⟩ => fin_out s1 (hq e A' hk)⟩
attribute [local irreducible] rl tc bu biX rowI rowE rowS padE padS by1 pw full convert Builtin.copy_ Builtin.append_ Instr.makeSlice
end Go.Proofs.YtkjamonkohpcnaaGreat.Slots
/- The law's mark and do. -/
namespace Go.Proofs.YtkjamonkohpcnaaGreat.Slots
open Go Ev Be
set_option linter.unusedVariables false
set_option linter.unusedSimpArgs false
set_option maxRecDepth 100000
attribute [local irreducible] rl tc bu biX rowI rowE rowS padE padS by1 pw full convert Builtin.copy_ Builtin.append_ Instr.makeSlice
end Go.Proofs.YtkjamonkohpcnaaGreat.Slots
/- The law's do. -/
namespace Go.Proofs.YtkjamonkohpcnaaGreat.Slots
open Go Ev Be
set_option linter.unusedVariables false
set_option linter.unusedSimpArgs false
set_option maxRecDepth 100000
attribute [local irreducible] rl tc bu biX rowI rowE rowS padE padS by1 pw full convert Builtin.copy_ Builtin.append_ Instr.makeSlice
end Go.Proofs.YtkjamonkohpcnaaGreat.Slots
/- The law's same. -/
namespace Go.Proofs.YtkjamonkohpcnaaGreat.Slots
open Go Ev Be
set_option linter.unusedVariables false
set_option linter.unusedSimpArgs false
set_option maxRecDepth 100000
theorem fSl (x : Sl10) : Fits ([.int .i64] ++ List.replicate 8 .bool ++ [.int .i64]) (sc x) := by
  repeat' first | exact trivial | (refine ⟨⟨_, rfl⟩, ?_⟩)
theorem cnt_rest {p : Nat → Bool} {q : Nat} (h : ∀ j, q ≤ j → p j = false) : ∀ k, q ≤ k → cnt p k = cnt p q := by
  intro k
  induction k with
  | zero => intro hk; have : q = 0 := by omega
            rw [this]
  | succ k ih =>
    intro hk
    by_cases hq : q = k + 1
    · rw [hq]
    · rw [cnt_f (by rw [h k (by omega)]; simp)]
      exact ih (by omega)
theorem bL_rest {q : Nat} {s : Nat → Sl10} (h : ∀ j, q ≤ j → s j = freeS) : ∀ k, q ≤ k → bL s k = bL s q ++ List.replicate (4 * (k - q)) 0 := by
  intro k
  induction k with
  | zero => intro hk; have : q = 0 := by omega
            rw [this]; simp
  | succ k ih =>
    intro hk
    by_cases hq : q = k + 1
    · rw [hq]; simp
    · have e : bL s (k + 1) = bL s k ++ [0, 0, 0, 0] := by
        show List.map by1 (rowI s k ++ sNum (s k)) = _
        rw [List.map_append, h k (by omega)]
        have : List.map by1 (sNum freeS) = [0, 0, 0, 0] := by decide
        rw [this]
      rw [e, ih (by omega), List.append_assoc]
      congr 1
      rw [show 4 * (k + 1 - q) = 4 * (k - q) + 4 by omega, ← List.replicate_append_replicate]
      rfl
attribute [local irreducible] rl tc bu biX rowI rowE rowS padE padS by1 pw full sBy cnt convert Builtin.copy_ Builtin.append_ Instr.makeSlice
end Go.Proofs.YtkjamonkohpcnaaGreat.Slots
/- An act that comes in. -/
namespace Go.Proofs.YtkjamonkohpcnaaGreat.Slots
open Go Ev Be
set_option linter.unusedVariables false
set_option linter.unusedSimpArgs false
set_option maxRecDepth 100000
end Go.Proofs.YtkjamonkohpcnaaGreat.Slots
/- The law SlotsDo: every call of a table is answered as the document says. -/
namespace Go.Proofs.YtkjamonkohpcnaaGreat.Slots
open Go Ev Be
set_option linter.unusedVariables false
set_option linter.unusedSimpArgs false
set_option maxRecDepth 100000
theorem rl_congr {n : Nat} {s s' : Nat → Sl10} (h : ∀ j, j < n → s j = s' j) : rl n s = rl n s' := by
  unfold rl
  congr 1
  refine List.map_congr_left fun i hi => ?_
  rw [h i (List.mem_range.1 hi)]
theorem tB_free (r : Nat) (n : Int) : tB r n (fun j => if j < 8 then freeS else zeroS) = tB r n (fun _ => freeS) := by
  have : tc n (fun j => if j < 8 then freeS else zeroS) = tc n (fun _ => freeS) := by
    unfold tc
    rw [rl_congr (s' := fun _ => freeS) (fun j hj => if_pos hj)]
  unfold tB
  rw [this]
attribute [local irreducible] rl tc bu biX rowI rowE rowS padE padS by1 pw full cnt convert Builtin.copy_ Builtin.append_ Instr.makeSlice
end Go.Proofs.YtkjamonkohpcnaaGreat.Slots
/- Bytes as a table of slots: plain laws. -/
namespace Go.Proofs.YtkjamonkohpcnaaGreat.Slots
open Go Ev Be
set_option linter.unusedVariables false
set_option linter.unusedSimpArgs false
set_option maxRecDepth 100000
abbrev By := Nat → UInt8
def S48 (c : By) : ByteArray := str ((List.range 48).map c)
theorem S48_size (c : By) : (S48 c).size = 48 := by unfold S48; rw [Ev.str_size]; simp
theorem S48_of {s : ByteArray} (h : s.size = 48) : ∃ c, s = S48 c := by
  refine ⟨fun i => s.data.toList.getD i 0, ?_⟩
  have hl : s.data.toList.length = 48 := h
  conv => lhs; rw [← str_eta s]
  unfold S48
  congr 1
  apply List.ext_getElem?
  intro i
  rw [List.getElem?_map]
  by_cases hi : i < 48
  · rw [List.getElem?_range hi, List.getElem?_eq_getElem (by omega), Option.map_some, List.getD_eq_getElem?_getD, List.getElem?_eq_getElem (by omega)]; rfl
  · rw [List.getElem?_eq_none (by omega), List.getElem?_eq_none (by simp; omega)]; rfl
theorem S48_at (c : By) {k : Nat} (hk : k < 48) : byteAt (S48 c) k = ((c k).toNat : Int) := by
  unfold S48 byteAt
  rw [str_data, List.getElem?_map, List.getElem?_range hk]
  rfl
theorem S48_inj {c : By} {l : List UInt8} (hl : l.length = 48) (h : str l = S48 c) {k : Nat} (hk : k < 48) : l[k]? = some (c k) := by
  unfold S48 at h
  rw [str_inj] at h
  rw [h, List.getElem?_map, List.getElem?_range hk]
  rfl
def S4 (c : By) (i : Nat) : ByteArray := str [c (4 * i), c (4 * i + 1), c (4 * i + 2), c (4 * i + 3)]
theorem S48_ext (c : By) {i : Nat} (hi : i < 12) : (S48 c).extract (4 * i) (4 * (i + 1)) = S4 c i := by
  apply ByteArray.ext
  unfold S48 S4
  apply Array.ext'
  simp only [str, ByteArray.data_extract, List.extract_toArray]
  rw [List.extract_eq_take_drop]
  apply List.ext_getElem?
  intro k
  rw [List.getElem?_take, List.getElem?_drop, List.getElem?_map]
  by_cases hk : k < 4
  · rw [if_pos (by omega), List.getElem?_range (by omega)]
    have h : k = 0 ∨ k = 1 ∨ k = 2 ∨ k = 3 := by omega
    rcases h with rfl | rfl | rfl | rfl <;> rfl
  · rw [if_neg (by omega), List.getElem?_eq_none (by simp; omega)]
/-- A bit. -/
def bt (x : UInt8) (k : Nat) : Bool := decide (x.toNat / 2 ^ k % 2 = 1)
def slB (c : By) (i : Nat) : Sl10 := ⟨((c (4 * i)).toNat : Int) - 1, fun k => bt (c (4 * i + 1)) (4 + k), fun k => bt (c (4 * i + 1)) k, ((c (4 * i + 2)).toNat : Int)⟩
theorem slB_bd (c : By) (i : Nat) : -1 ≤ (slB c i).g ∧ (slB c i).g ≤ 254 ∧ 0 ≤ (slB c i).lv ∧ (slB c i).lv ≤ 255 := by
  have h1 := (c (4 * i)).toNat_lt
  have h2 := (c (4 * i + 2)).toNat_lt
  unfold slB
  simp only
  omega
theorem bt_bu : ∀ x : UInt8, bu (bt x 4) (bt x 5) (bt x 6) (bt x 7) (bt x 0) (bt x 1) (bt x 2) (bt x 3) 4 = (x.toNat : Int) := by
  have h : ∀ n : Nat, n < 256 → bu (decide (n / 2 ^ 4 % 2 = 1)) (decide (n / 2 ^ 5 % 2 = 1)) (decide (n / 2 ^ 6 % 2 = 1)) (decide (n / 2 ^ 7 % 2 = 1)) (decide (n / 2 ^ 0 % 2 = 1)) (decide (n / 2 ^ 1 % 2 = 1)) (decide (n / 2 ^ 2 % 2 = 1)) (decide (n / 2 ^ 3 % 2 = 1)) 4 = (n : Int) := by unfold bu; decide +kernel
  intro x
  exact h x.toNat x.toNat_lt
theorem biX_B (c : By) (i : Nat) : biX (slB c i) 4 = ((c (4 * i + 1)).toNat : Int) := bt_bu _
theorem bu_bt : ∀ v0 v1 v2 v3 d0 d1 d2 d3 : Bool, (fun x => bt x 4 = v0 ∧ bt x 5 = v1 ∧ bt x 6 = v2 ∧ bt x 7 = v3 ∧ bt x 0 = d0 ∧ bt x 1 = d1 ∧ bt x 2 = d2 ∧ bt x 3 = d3) (by1 (bu v0 v1 v2 v3 d0 d1 d2 d3 4)) := by unfold bu by1 bt; decide +kernel
theorem sc_parts {x y : Sl10} (h : sc x = sc y) : x.g = y.g ∧ (∀ k, k < 4 → x.v k = y.v k) ∧ (∀ k, k < 4 → x.d k = y.d k) ∧ x.lv = y.lv := by
  simp only [sc, List.cons.injEq, Value.int.injEq, Value.bool.injEq, and_true, true_and] at h
  obtain ⟨hg, a0, a1, a2, a3, b0, b1, b2, b3, hl⟩ := h
  refine ⟨hg, fun k hk => ?_, fun k hk => ?_, hl⟩
  · have : k = 0 ∨ k = 1 ∨ k = 2 ∨ k = 3 := by omega
    rcases this with rfl | rfl | rfl | rfl <;> assumption
  · have : k = 0 ∨ k = 1 ∨ k = 2 ∨ k = 3 := by omega
    rcases this with rfl | rfl | rfl | rfl <;> assumption
theorem sc_of {x y : Sl10} (hg : x.g = y.g) (hv : ∀ k, k < 4 → x.v k = y.v k) (hd : ∀ k, k < 4 → x.d k = y.d k) (hl : x.lv = y.lv) : sc x = sc y := by
  unfold sc
  rw [hg, hl, hv 0 (by omega), hv 1 (by omega), hv 2 (by omega), hv 3 (by omega), hd 0 (by omega), hd 1 (by omega), hd 2 (by omega), hd 3 (by omega)]
theorem sNum_congr {x y : Sl10} (h : sc x = sc y) : sNum x = sNum y := by
  obtain ⟨hg, hv, hd, hl⟩ := sc_parts h
  unfold sNum biX
  rw [hg, hl, hv 0 (by omega), hv 1 (by omega), hv 2 (by omega), hv 3 (by omega), hd 0 (by omega), hd 1 (by omega), hd 2 (by omega), hd 3 (by omega)]
theorem rowI_congr {s s' : Nat → Sl10} : ∀ {i : Nat}, (∀ j, j < i → sc (s j) = sc (s' j)) → rowI s i = rowI s' i
  | 0, _ => rfl
  | i + 1, h => by rw [rowI, rowI, rowI_congr fun j hj => h j (by omega), sNum_congr (h i (by omega))]
theorem rl_congr' {n : Nat} {s s' : Nat → Sl10} (h : ∀ j, j < n → sc (s j) = sc (s' j)) : rl n s = rl n s' := by
  unfold rl
  congr 1
  refine List.map_congr_left fun i hi => ?_
  rw [h i (List.mem_range.1 hi)]
theorem tc_congr {n : Int} {s s' : Nat → Sl10} (h : ∀ j, j < 8 → sc (s j) = sc (s' j)) : tc n s = tc n s' := by
  unfold tc; rw [rl_congr' h]
/-- What the program asks of a table, and what the document asks of bytes. -/
def okR (n : Nat) (s : Nat → Sl10) (i : Nat) : Prop := ((s i).g < 0 → sc (s i) = sc freeS) ∧ (0 ≤ (s i).g → i < n ∧ (s i).g < 16 ∧ (∀ j, j < i → (s j).g ≠ (s i).g) ∧ (s i).lv < 4 ∧ ∀ k, k < 4 → (s i).d k = true → (s i).v k = true)
def Right (n : Nat) (s : Nat → Sl10) : Prop := ∀ i, i < 8 → okR n s i
def okQ (c : By) (i : Nat) : Prop := (∀ k, k < 4 → (slB c i).d k = true → (slB c i).v k = true) ∧ ¬ ((slB c i).g < 0 ∧ (0 < ((c (4 * i + 1)).toNat : Int) ∨ 0 < (slB c i).lv)) ∧ (slB c i).g ≤ 15 ∧ (slB c i).lv ≤ 3 ∧ ¬ ∃ j, j < i ∧ (slB c j).g = (slB c i).g ∧ 0 ≤ (slB c i).g
def cutS (c : By) (n : Nat) : Nat → Sl10 := fun j => if j < n then slB c j else freeS
def RA (c : By) (n : Nat) : Prop := Right n (slB c) ∧ sBy (slB c) = S48 c
def RB (c : By) (n : Nat) : Prop := (∀ i, i < n → okQ c i) ∧ full (str (bL (cutS c n) n)) 48 = S48 c
theorem bt_zero : ∀ k, k < 8 → bt 0 k = false := by unfold bt; decide +kernel
theorem free_of {c : By} {j : Nat} (h0 : c (4 * j) = 0) (h1 : c (4 * j + 1) = 0) (h2 : c (4 * j + 2) = 0) : sc (slB c j) = sc freeS := by
  refine sc_of ?_ (fun k hk => ?_) (fun k hk => ?_) ?_
  · show ((c (4 * j)).toNat : Int) - 1 = -1
    rw [h0]; rfl
  · show bt (c (4 * j + 1)) (4 + k) = false
    rw [h1, bt_zero _ (by omega)]
  · show bt (c (4 * j + 1)) k = false
    rw [h1, bt_zero _ (by omega)]
  · show ((c (4 * j + 2)).toNat : Int) = 0
    rw [h2]; rfl
theorem bL_get {s : Nat → Sl10} : ∀ {n j : Nat}, j < n → (bL s n)[4 * j]? = some (by1 ((s j).g + 1)) ∧ (bL s n)[4 * j + 1]? = some (by1 (biX (s j) 4)) ∧ (bL s n)[4 * j + 2]? = some (by1 (s j).lv) ∧ (bL s n)[4 * j + 3]? = some 0
  | 0, j, h => absurd h (by omega)
  | n + 1, j, h => by
    have hl := bL_len s n
    have e : bL s (n + 1) = bL s n ++ [by1 ((s n).g + 1), by1 (biX (s n) 4), by1 (s n).lv, 0] := by
      show List.map by1 (rowI s n ++ sNum (s n)) = _
      rw [List.map_append]; rfl
    rw [e]
    by_cases hj : j < n
    · have := bL_get (s := s) hj
      rw [List.getElem?_append_left (by omega), List.getElem?_append_left (by omega), List.getElem?_append_left (by omega), List.getElem?_append_left (by omega)]
      exact this
    · obtain rfl : j = n := by omega
      rw [List.getElem?_append_right (by omega), List.getElem?_append_right (by omega), List.getElem?_append_right (by omega), List.getElem?_append_right (by omega), hl]
      rw [show 4 * j - 4 * j = 0 by omega, show 4 * j + 1 - 4 * j = 1 by omega, show 4 * j + 2 - 4 * j = 2 by omega, show 4 * j + 3 - 4 * j = 3 by omega]
      exact ⟨rfl, rfl, rfl, rfl⟩
theorem full_eq {s : Nat → Sl10} {q : Nat} (hq : q ≤ 8) : full (str (bL s q)) 48 = str (bL s q ++ List.replicate (48 - 4 * q) 0) := by
  unfold full
  rw [if_neg (by rw [Ev.str_size, bL_len]; omega), Ev.str_size, bL_len, str_append]
  congr 3
  omega
theorem same_by {q : Nat} {s : Nat → Sl10} (hq : q ≤ 8) (h : ∀ j, q ≤ j → s j = freeS) : sBy s = full (str (bL s q)) 48 := by
  have h8 := bL_rest h 8 hq
  rw [full_eq hq]
  unfold sBy
  show str (bL s 8 ++ _) = _
  rw [h8, List.append_assoc, List.replicate_append_replicate]
  congr 3
  omega
theorem sBy_congr {s s' : Nat → Sl10} (h : ∀ j, j < 8 → sc (s j) = sc (s' j)) : sBy s = sBy s' := by
  unfold sBy; rw [rowI_congr h]
theorem cut_same {c : By} {n : Nat} (hf : ∀ j, n ≤ j → j < 8 → sc (slB c j) = sc freeS) : ∀ j, j < 8 → sc (slB c j) = sc (cutS c n j) := by
  intro j hj
  unfold cutS
  by_cases h : j < n
  · rw [if_pos h]
  · rw [if_neg h, hf j (by omega) hj]
theorem cut_free {c : By} {n : Nat} : ∀ j, n ≤ j → cutS c n j = freeS := fun j hj => by unfold cutS; rw [if_neg (by omega)]
theorem cut_by {c : By} {n : Nat} (hn : n ≤ 8) (hf : ∀ j, n ≤ j → j < 8 → sc (slB c j) = sc freeS) : sBy (slB c) = full (str (bL (cutS c n) n)) 48 := by
  rw [sBy_congr (cut_same hf), same_by hn cut_free]
theorem right_rest {c : By} {n : Nat} (h : Right n (slB c)) : ∀ j, n ≤ j → j < 8 → sc (slB c j) = sc freeS := by
  intro j hj h8
  refine (h j h8).1 ?_
  by_cases hg : (slB c j).g < 0
  · exact hg
  · have := ((h j h8).2 (by omega)).1
    omega
theorem by_rest {c : By} {n : Nat} (hn : n ≤ 8) (h : full (str (bL (cutS c n) n)) 48 = S48 c) : ∀ j, n ≤ j → j < 8 → sc (slB c j) = sc freeS := by
  intro j hj h8
  rw [full_eq hn] at h
  have hl := bL_len (cutS c n) n
  have key : ∀ k, 4 * n ≤ k → k < 48 → c k = 0 := by
    intro k h1 h2
    have := S48_inj (by rw [List.length_append, hl, List.length_replicate]; omega) h h2
    rw [List.getElem?_append_right (by omega), List.getElem?_replicate, if_pos (by omega)] at this
    exact (Option.some.inj this).symm
  exact free_of (key _ (by omega) (by omega)) (key _ (by omega) (by omega)) (key _ (by omega) (by omega))
theorem bits_free {c : By} {i : Nat} (h : sc (slB c i) = sc freeS) : ((c (4 * i + 1)).toNat : Int) = 0 := by
  have := sNum_congr h
  unfold sNum at this
  rw [biX_B] at this
  have h2 := (List.cons.inj (List.cons.inj this).2).1
  rw [h2]
  unfold biX bu freeS
  rfl
theorem reads_iff {c : By} {n : Nat} (hn : n ≤ 8) : RA c n ↔ RB c n := by
  constructor
  · rintro ⟨hR, hb⟩
    refine ⟨fun i hi => ?_, by rw [← cut_by hn (right_rest hR)]; exact hb⟩
    have hr := hR i (by omega)
    have hbd := slB_bd c i
    by_cases hg : (slB c i).g < 0
    · have hf := hr.1 hg
      have hz := bits_free hf
      obtain ⟨e1, e2, e3, e4⟩ := sc_parts hf
      have e5 : freeS.lv = 0 := rfl
      refine ⟨fun k hk hd => ?_, fun hc => ?_, by omega, by omega, fun ⟨j, hj, h1, h2⟩ => by omega⟩
      · rw [e3 k hk] at hd; cases hd
      · rcases hc.2 with h | h <;> omega
    · obtain ⟨h1, h2, h3, h4, h5⟩ := hr.2 (by omega)
      exact ⟨h5, fun hc => hg hc.1, by omega, by omega, fun ⟨j, hj, q1, q2⟩ => h3 j hj q1⟩
  · rintro ⟨hQ, hb⟩
    have hrest := by_rest hn hb
    refine ⟨fun i hi => ?_, by rw [cut_by hn hrest]; exact hb⟩
    by_cases hin : i < n
    · obtain ⟨h1, h2, h3, h4, h5⟩ := hQ i hin
      have hbd := slB_bd c i
      refine ⟨fun hg => ?_, fun hg => ⟨hin, by omega, fun j hj he => h5 ⟨j, hj, he, hg⟩, by omega, h1⟩⟩
      have n1 : ¬ 0 < ((c (4 * i + 1)).toNat : Int) := fun h => h2 ⟨hg, .inl h⟩
      have n2 : ¬ 0 < (slB c i).lv := fun h => h2 ⟨hg, .inr h⟩
      have n0 : (slB c i).g = ((c (4 * i)).toNat : Int) - 1 := rfl
      have n3 : (slB c i).lv = ((c (4 * i + 2)).toNat : Int) := rfl
      refine free_of ?_ ?_ ?_
      · exact UInt8.toNat_inj.1 (show (c (4 * i)).toNat = 0 by omega)
      · exact UInt8.toNat_inj.1 (show (c (4 * i + 1)).toNat = 0 by omega)
      · exact UInt8.toNat_inj.1 (show (c (4 * i + 2)).toNat = 0 by omega)
    · have hf := hrest i (by omega) hi
      refine ⟨fun _ => hf, fun hg => ?_⟩
      have := (sc_parts hf).1
      have e5 : freeS.g = -1 := rfl
      omega
/-- A table that may be is a good one. -/
theorem right_good {c : By} {n : Nat} (hR : Right n (slB c)) : Good n (cutS c n) := by
  have hrest := right_rest hR
  have hcut := cut_same hrest
  have hp : ∀ j, j < 8 → okS (cutS c n j) ∧ nice (cutS c n j) := by
    intro j hj
    have hr := hR j hj
    obtain ⟨e1, e2, e3, e4⟩ := sc_parts (hcut j hj)
    have hbd := slB_bd c j
    by_cases hg : (slB c j).g < 0
    · obtain ⟨f1, f2, f3, f4⟩ := sc_parts (hr.1 hg)
      have g1 : freeS.g = -1 := rfl
      have g2 : freeS.lv = 0 := rfl
      refine ⟨?_, fun p hp hd => ?_, fun _ => ⟨fun p hp => ?_, ?_⟩⟩
      · unfold okS; omega
      · rw [← e3 p hp, f3 p hp] at hd; cases hd
      · rw [← e2 p hp, f2 p hp]; rfl
      · omega
    · obtain ⟨h1, h2, h3, h4, h5⟩ := hr.2 (by omega)
      refine ⟨?_, fun p hp hd => ?_, fun h => ?_⟩
      · unfold okS; omega
      · rw [← e2 p hp]; exact h5 p hp (by rw [e3 p hp]; exact hd)
      · omega
  refine ⟨cut_free, fun j hj => (hp j hj).1, fun j hj => (hp j hj).2, fun i j hi hj hij h0 he => ?_⟩
  have e1 := (sc_parts (hcut i hi)).1
  have e2 := (sc_parts (hcut j hj)).1
  have ri := (hR i hi).2 (by omega)
  have rj := (hR j hj).2 (by omega)
  by_cases h : j < i
  · exact ri.2.2.1 j h (by omega)
  · exact rj.2.2.1 i (by omega) (by omega)
theorem right_tc {c : By} {n : Nat} (hR : Right n (slB c)) (N : Int) : tc N (slB c) = tc N (cutS c n) := tc_congr (cut_same (right_rest hR))
/-- A good table's bytes are read as it is. -/
theorem back {q : Nat} {s : Nat → Sl10} (hq : q ≤ 8) (hG : Good q s) : ∃ c, sBy s = S48 c ∧ (∀ j, j < 8 → sc (slB c j) = sc (s j)) ∧ Right q (slB c) := by
  have hsz : (sBy s).size = 48 := by
    unfold sBy; rw [Ev.str_size, List.length_append, List.length_map, rowI_len, List.length_replicate]
  obtain ⟨c, hc⟩ := S48_of hsz
  have hsc : ∀ j, j < 8 → sc (slB c j) = sc (s j) := by
    intro j hj
    have hl := bL_len s 8
    have hk : ∀ k, k < 32 → (bL s 8)[k]? = some (c k) := fun k hk => by
      have := S48_inj (l := bL s 8 ++ List.replicate 16 0) (c := c) (by rw [List.length_append, hl, List.length_replicate]) hc (k := k) (by omega)
      rw [List.getElem?_append_left (by omega)] at this
      exact this
    obtain ⟨b0, b1, b2, b3⟩ := bL_get (s := s) hj
    rw [hk _ (by omega)] at b0 b1 b2
    have b0 := Option.some.inj b0
    have b1 := Option.some.inj b1
    have b2 := Option.some.inj b2
    have hw := hG.2.1 j hj
    unfold okS at hw
    have hb : ∀ x : Int, 0 ≤ x → x ≤ 255 → ((by1 x).toNat : Int) = x := fun x h0 h1 => by
      unfold by1; rw [UInt8.toNat_ofNat']; omega
    have ht := bu_bt ((s j).v 0) ((s j).v 1) ((s j).v 2) ((s j).v 3) ((s j).d 0) ((s j).d 1) ((s j).d 2) ((s j).d 3)
    rw [show bu ((s j).v 0) ((s j).v 1) ((s j).v 2) ((s j).v 3) ((s j).d 0) ((s j).d 1) ((s j).d 2) ((s j).d 3) 4 = biX (s j) 4 from rfl, ← b1] at ht
    obtain ⟨t4, t5, t6, t7, t0, t1, t2, t3⟩ := ht
    refine sc_of ?_ (fun k hk => ?_) (fun k hk => ?_) ?_
    · show ((c (4 * j)).toNat : Int) - 1 = _
      rw [b0, hb _ (by omega) (by omega)]; omega
    · show bt (c (4 * j + 1)) (4 + k) = _
      have : k = 0 ∨ k = 1 ∨ k = 2 ∨ k = 3 := by omega
      rcases this with rfl | rfl | rfl | rfl <;> assumption
    · show bt (c (4 * j + 1)) k = _
      have : k = 0 ∨ k = 1 ∨ k = 2 ∨ k = 3 := by omega
      rcases this with rfl | rfl | rfl | rfl <;> assumption
    · show ((c (4 * j + 2)).toNat : Int) = _
      rw [b2, hb _ (by omega) (by omega)]
  refine ⟨c, hc, hsc, fun i hi => ?_⟩
  obtain ⟨e1, e2, e3, e4⟩ := sc_parts (hsc i hi)
  have hw := hG.2.1 i hi
  have hn := hG.2.2.1 i hi
  unfold okS at hw
  refine ⟨fun hg => ?_, fun hg => ⟨?_, by omega, fun j hj => ?_, by omega, fun k hk hd => ?_⟩⟩
  · rw [hsc i hi]
    obtain ⟨n1, n2⟩ := hn.2 (by omega)
    have g1 : freeS.g = -1 := rfl
    refine sc_of (by omega) (fun k hk => by rw [n1 k hk]; rfl) (fun k hk => ?_) (by rw [n2]; rfl)
    rcases hd : (s i).d k with _ | _
    · rfl
    · have := hn.1 k hk hd
      rw [n1 k hk] at this; cases this
  · by_cases h : i < q
    · exact h
    · have := hG.1 i (by omega)
      rw [this] at e1
      have g1 : freeS.g = -1 := rfl
      omega
  · rw [(sc_parts (hsc j (by omega))).1, e1]
    exact hG.2.2.2 i j hi (by omega) (by omega) (by omega)
  · rw [e2 k hk]; exact hn.1 k hk (by rw [← e3 k hk]; exact hd)
end Go.Proofs.YtkjamonkohpcnaaGreat.Slots
/- slots.Read. -/
namespace Go.Proofs.YtkjamonkohpcnaaGreat.Slots
open Go Ev Be
set_option linter.unusedVariables false
set_option linter.unusedSimpArgs false
set_option maxRecDepth 100000
theorem and_bits : ∀ n : Nat, n < 256 → ∀ k : Nat, k < 8 → IntKind.u8.wrap ((BitVec.ofInt IntKind.u8.bits (n : Int) &&& BitVec.ofInt IntKind.u8.bits (2 ^ k : Nat)).toNat : Int) = if n / 2 ^ k % 2 = 1 then ((2 ^ k : Nat) : Int) else 0 := by decide +kernel
theorem and_bit (x : UInt8) (k : Nat) (p : Int) (hk : k < 8) (hp : p = ((2 ^ k : Nat) : Int)) : IntKind.u8.wrap ((BitVec.ofInt IntKind.u8.bits (x.toNat : Int) &&& BitVec.ofInt IntKind.u8.bits p).toNat : Int) = if bt x k = true then p else 0 := by
  subst hp
  rw [and_bits x.toNat x.toNat_lt k hk]
  unfold bt
  simp
attribute [local irreducible] rl tc bu biX rowI rowE rowS padE padS by1 pw full sBy cnt bt convert Builtin.copy_ Builtin.append_ Instr.makeSlice
set_option maxHeartbeats 4000000 in
theorem slot_of (x0 x1 x2 x3 : UInt8) : Fnc Tryz.prog 129 [.string (str [x0, x1, x2, x3])] []
    (Ret (.agg #[.int .i64 ((x0.toNat : Int) - 1), .bool (bt x1 4), .bool (bt x1 5), .bool (bt x1 6), .bool (bt x1 7), .bool (bt x1 0), .bool (bt x1 1), .bool (bt x1 2), .bool (bt x1 3), .int .i64 (x2.toNat : Int)]) []) := by
  have h0 := x0.toNat_lt
  have h1 := x1.toNat_lt
  have h2 := x2.toNat_lt
  refine fn_intro Tryz.func129 (by kernel_rfl) ?_
  repeat' ((conv => whnf); first
      | refine draw_any 1 [(0, true), (1, true), (2, true), (3, true), (4, true), (5, true), (6, true), (7, true), (8, false), (9, false)] [] rfl (by kernel_rfl) ?_
      | refine kept_nil ?_
      | (refine need ⟨by omega, by rw [Ev.str_size]; simp⟩ ?_)
      | (refine zv (fun z hz => ?_); obtain rfl : z = (x0.toNat : Int) := hz)
      | (refine zv (fun z hz => ?_); obtain rfl : z = (x2.toNat : Int) := hz)
      | refine nw (fun n => ?_)
      | refine bld ?_
      | refine st_lit rfl ?_
      | refine need (by first | rfl | omega) ?_
      | (refine wr (fun z hz => ?_); (try rw [Int.tdiv_eq_ediv_of_nonneg (by omega)] at hz); rw [w64 (by omega) (by omega)] at hz; subst hz))
  rename_i p
  refine loop_rule [13] (fun vs M m => ∃ k : Nat, vs = [.int .i64 k] ∧ k ≤ 4 ∧ m = 4 - k ∧ M = [⟨n, .cells [.int .i64 ((x0.toNat : Int) - 1), .bool (if 0 < k then bt x1 4 else false), .bool (if 1 < k then bt x1 5 else false), .bool (if 2 < k then bt x1 6 else false), .bool (if 3 < k then bt x1 7 else false), .bool (if 0 < k then bt x1 0 else false), .bool (if 1 < k then bt x1 1 else false), .bool (if 2 < k then bt x1 2 else false), .bool (if 3 < k then bt x1 3 else false), .int .i64 (x2.toNat : Int)] 66⟩, ⟨p, .cells slZ 66⟩]) rfl ?_ ?_
  · exact fin_all ⟨_, 0, rfl, by omega, rfl, rfl⟩
  rintro vs junk M' m ⟨k, rfl, hk, rfl, rfl⟩
  have hcase : k = 0 ∨ k = 1 ∨ k = 2 ∨ k = 3 ∨ k = 4 := by omega
  rcases hcase with rfl | rfl | rfl | rfl | rfl
  · have a1 := and_bit x1 4 16 (by omega) rfl
    have a2 := and_bit x1 0 1 (by omega) rfl
    rcases hv : bt x1 4 <;> rcases hd : bt x1 0
    all_goals rw [hv] at a1
    all_goals rw [hd] at a2
    all_goals simp only [if_true, if_false, Bool.false_eq_true] at a1 a2
    all_goals repeat' ((conv => whnf); first
        | refine draw_any 5 [(0, true), (1, true), (2, true), (3, true), (4, true), (5, true), (6, true), (7, true), (8, true), (9, true), (10, true), (11, true), (12, true), (13, true), (14, true), (15, true), (17, true), (16, false), (18, true), (19, false)] [] rfl (by kernel_rfl) ?_
        | refine kept_nil ?_
        | (refine need ⟨by omega, by rw [Ev.str_size]; simp⟩ ?_)
        | (refine zv (fun z hz => ?_); obtain rfl : z = (x1.toNat : Int) := hz)
        | (refine wr (fun z hz => ?_); rw [show z = 16 from by rw [hz]; with_reducible decide])
        | (refine wr (fun z hz => ?_); rw [show z = 1 from by rw [hz]; with_reducible decide])
        | (refine wr (fun z hz => ?_); rw [a1] at hz; subst hz)
        | (refine wr (fun z hz => ?_); rw [a2] at hz; subst hz)
        | (refine nv (fun z hz => ?_); (try simp at hz); replace hz := hz.symm; subst hz)
        | refine st_lit rfl ?_
        | refine need (by first | rfl | omega) ?_
        | (refine ifs (fun h => ?_) (fun h => ?_) <;> (try (exfalso; first | omega | with_reducible contradiction | with_reducible exact h rfl))))
    all_goals (conv => whnf)
    all_goals exact ⟨rfl, fin_all ⟨4 - 1, by omega, 1, rfl, by omega, rfl, by simp [hv, hd]⟩⟩
  · have a1 := and_bit x1 5 32 (by omega) rfl
    have a2 := and_bit x1 1 2 (by omega) rfl
    rcases hv : bt x1 5 <;> rcases hd : bt x1 1
    all_goals rw [hv] at a1
    all_goals rw [hd] at a2
    all_goals simp only [if_true, if_false, Bool.false_eq_true] at a1 a2
    all_goals repeat' ((conv => whnf); first
        | refine draw_any 5 [(0, true), (1, true), (2, true), (3, true), (4, true), (5, true), (6, true), (7, true), (8, true), (9, true), (10, true), (11, true), (12, true), (13, true), (14, true), (15, true), (17, true), (16, false), (18, true), (19, false)] [] rfl (by kernel_rfl) ?_
        | refine kept_nil ?_
        | (refine need ⟨by omega, by rw [Ev.str_size]; simp⟩ ?_)
        | (refine zv (fun z hz => ?_); obtain rfl : z = (x1.toNat : Int) := hz)
        | (refine wr (fun z hz => ?_); rw [show z = 32 from by rw [hz]; with_reducible decide])
        | (refine wr (fun z hz => ?_); rw [show z = 2 from by rw [hz]; with_reducible decide])
        | (refine wr (fun z hz => ?_); rw [a1] at hz; subst hz)
        | (refine wr (fun z hz => ?_); rw [a2] at hz; subst hz)
        | (refine nv (fun z hz => ?_); (try simp at hz); replace hz := hz.symm; subst hz)
        | refine st_lit rfl ?_
        | refine need (by first | rfl | omega) ?_
        | (refine ifs (fun h => ?_) (fun h => ?_) <;> (try (exfalso; first | omega | with_reducible contradiction | with_reducible exact h rfl))))
    all_goals (conv => whnf)
    all_goals exact ⟨rfl, fin_all ⟨4 - 2, by omega, 2, rfl, by omega, rfl, by simp [hv, hd]⟩⟩
  · have a1 := and_bit x1 6 64 (by omega) rfl
    have a2 := and_bit x1 2 4 (by omega) rfl
    rcases hv : bt x1 6 <;> rcases hd : bt x1 2
    all_goals rw [hv] at a1
    all_goals rw [hd] at a2
    all_goals simp only [if_true, if_false, Bool.false_eq_true] at a1 a2
    all_goals repeat' ((conv => whnf); first
        | refine draw_any 5 [(0, true), (1, true), (2, true), (3, true), (4, true), (5, true), (6, true), (7, true), (8, true), (9, true), (10, true), (11, true), (12, true), (13, true), (14, true), (15, true), (17, true), (16, false), (18, true), (19, false)] [] rfl (by kernel_rfl) ?_
        | refine kept_nil ?_
        | (refine need ⟨by omega, by rw [Ev.str_size]; simp⟩ ?_)
        | (refine zv (fun z hz => ?_); obtain rfl : z = (x1.toNat : Int) := hz)
        | (refine wr (fun z hz => ?_); rw [show z = 64 from by rw [hz]; with_reducible decide])
        | (refine wr (fun z hz => ?_); rw [show z = 4 from by rw [hz]; with_reducible decide])
        | (refine wr (fun z hz => ?_); rw [a1] at hz; subst hz)
        | (refine wr (fun z hz => ?_); rw [a2] at hz; subst hz)
        | (refine nv (fun z hz => ?_); (try simp at hz); replace hz := hz.symm; subst hz)
        | refine st_lit rfl ?_
        | refine need (by first | rfl | omega) ?_
        | (refine wr (fun z hz => ?_); (try rw [Int.tdiv_eq_ediv_of_nonneg (by omega)] at hz); rw [w64 (by omega) (by omega)] at hz; subst hz)
        | (refine ifs (fun h => ?_) (fun h => ?_) <;> (try (exfalso; first | omega | with_reducible contradiction | with_reducible exact h rfl))))
    all_goals (conv => whnf)
    all_goals exact ⟨rfl, fin_all ⟨4 - 3, by omega, 3, rfl, by omega, rfl, by simp [hv, hd]⟩⟩
  · have a1 := and_bit x1 7 128 (by omega) rfl
    have a2 := and_bit x1 3 8 (by omega) rfl
    rcases hv : bt x1 7 <;> rcases hd : bt x1 3
    all_goals rw [hv] at a1
    all_goals rw [hd] at a2
    all_goals simp only [if_true, if_false, Bool.false_eq_true] at a1 a2
    all_goals repeat' ((conv => whnf); first
        | refine draw_any 5 [(0, true), (1, true), (2, true), (3, true), (4, true), (5, true), (6, true), (7, true), (8, true), (9, true), (10, true), (11, true), (12, true), (13, true), (14, true), (15, true), (17, true), (16, false), (18, true), (19, false)] [] rfl (by kernel_rfl) ?_
        | refine kept_nil ?_
        | (refine need ⟨by omega, by rw [Ev.str_size]; simp⟩ ?_)
        | (refine zv (fun z hz => ?_); obtain rfl : z = (x1.toNat : Int) := hz)
        | (refine wr (fun z hz => ?_); rw [show z = 128 from by rw [hz]; with_reducible decide])
        | (refine wr (fun z hz => ?_); rw [show z = 8 from by rw [hz]; with_reducible decide])
        | (refine wr (fun z hz => ?_); rw [a1] at hz; subst hz)
        | (refine wr (fun z hz => ?_); rw [a2] at hz; subst hz)
        | (refine nv (fun z hz => ?_); (try simp at hz); replace hz := hz.symm; subst hz)
        | refine st_lit rfl ?_
        | refine need (by first | rfl | omega) ?_
        | (refine wr (fun z hz => ?_); (try rw [Int.tdiv_eq_ediv_of_nonneg (by omega)] at hz); rw [w64 (by omega) (by omega)] at hz; subst hz)
        | (refine ifs (fun h => ?_) (fun h => ?_) <;> (try (exfalso; first | omega | with_reducible contradiction | with_reducible exact h rfl))))
    all_goals (conv => whnf)
    all_goals exact ⟨rfl, fin_all ⟨4 - 4, by omega, 4, rfl, by omega, rfl, by simp [hv, hd]⟩⟩
  · repeat' ((conv => whnf); first
      | exact fin_nil ⟨rfl, rfl⟩
      | refine ldN_lit ?_
      | refine st_lit rfl ?_
      | refine need (by first | rfl | omega) ?_
      | (refine ifs (fun h => ?_) (fun h => ?_) <;> (try (exfalso; first | omega | with_reducible contradiction | with_reducible exact h rfl))))
end Go.Proofs.YtkjamonkohpcnaaGreat.Slots
