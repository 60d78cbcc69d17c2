/- The document's bytes of a list of slots. -/
import Derived.Test.YtlmhagngbfcdkaaSl6
namespace Go.Proofs.Ytlmhagngbfcdkaa.Slots
open Go Ev Be
set_option linter.unusedVariables false
set_option linter.unusedSimpArgs false
set_option maxRecDepth 100000
theorem wb {x : Int} (h0 : 0 ≤ x) (h1 : x ≤ 255) : IntKind.u8.wrap x = ((by1 x).toNat : Int) := by
  rw [IntKind.wrap_u8]
  unfold by1
  rw [UInt8.toNat_ofNat']
  omega
theorem ll_get' {n i k off : Nat} {s : Nat → Sl10} {junk : List Value} {v : Value} (ho : off = i * 10 + k) (hi : i < n) (hk : k < 10) (hv : (sc (s i))[k]? = some v) : (rl n s ++ junk)[off]? = some v := by
  rw [ho, ll_get hi hk, hv]
def pw (k : Nat) : Int := if k = 0 then 1 else if k = 1 then 2 else if k = 2 then 4 else if k = 3 then 8 else 16
theorem biX_k (x : Sl10) {k : Nat} (h : k < 5) : 0 ≤ biX x k ∧ biX x k ≤ 255 := bu_bd _ _ _ _ _ _ _ _ k h
theorem biX_0 (x : Sl10) : biX x 0 = 0 := by
  have : ∀ v0 v1 v2 v3 d0 d1 d2 d3 : Bool, bu v0 v1 v2 v3 d0 d1 d2 d3 0 = 0 := by decide +kernel
  exact this _ _ _ _ _ _ _ _
theorem biX_n0 (x : Sl10) : biX x 1 = biX x 0 + (if x.v 0 then 16 else 0) + (if x.d 0 then 1 else 0) := by
  have : ∀ v0 v1 v2 v3 d0 d1 d2 d3 : Bool, bu v0 v1 v2 v3 d0 d1 d2 d3 1 = bu v0 v1 v2 v3 d0 d1 d2 d3 0 + (if v0 then 16 else 0) + (if d0 then 1 else 0) := by decide +kernel
  exact this _ _ _ _ _ _ _ _
theorem biX_n1 (x : Sl10) : biX x 2 = biX x 1 + (if x.v 1 then 32 else 0) + (if x.d 1 then 2 else 0) := by
  have : ∀ v0 v1 v2 v3 d0 d1 d2 d3 : Bool, bu v0 v1 v2 v3 d0 d1 d2 d3 2 = bu v0 v1 v2 v3 d0 d1 d2 d3 1 + (if v1 then 32 else 0) + (if d1 then 2 else 0) := by decide +kernel
  exact this _ _ _ _ _ _ _ _
theorem biX_n2 (x : Sl10) : biX x 3 = biX x 2 + (if x.v 2 then 64 else 0) + (if x.d 2 then 4 else 0) := by
  have : ∀ v0 v1 v2 v3 d0 d1 d2 d3 : Bool, bu v0 v1 v2 v3 d0 d1 d2 d3 3 = bu v0 v1 v2 v3 d0 d1 d2 d3 2 + (if v2 then 64 else 0) + (if d2 then 4 else 0) := by decide +kernel
  exact this _ _ _ _ _ _ _ _
theorem biX_n3 (x : Sl10) : biX x 4 = biX x 3 + (if x.v 3 then 128 else 0) + (if x.d 3 then 8 else 0) := by
  have : ∀ v0 v1 v2 v3 d0 d1 d2 d3 : Bool, bu v0 v1 v2 v3 d0 d1 d2 d3 4 = bu v0 v1 v2 v3 d0 d1 d2 d3 3 + (if v3 then 128 else 0) + (if d3 then 8 else 0) := by decide +kernel
  exact this _ _ _ _ _ _ _ _
abbrev bL (s : Nat → Sl10) (i : Nat) : List UInt8 := (rowI s i).map by1
theorem bL_len (s : Nat → Sl10) (i : Nat) : (bL s i).length = 4 * i := by rw [List.length_map, rowI_len]
theorem bL_next (s : Nat → Sl10) (i : Nat) : u8s (bL s (i + 1)) = u8s (bL s i) ++ [.int .u8 ((by1 ((s i).g + 1)).toNat : Int), .int .u8 ((by1 (biX (s i) 4)).toNat : Int), .int .u8 ((by1 (s i).lv).toNat : Int), .int .u8 0] := by
  show u8s (List.map by1 (rowI s i ++ sNum (s i))) = _
  rw [List.map_append, u8s_append]
  rfl
attribute [local irreducible] rl tc bu biX rowI rowE rowS padE padS by1 pw full convert Builtin.copy_ Builtin.append_ Instr.makeSlice
set_option maxHeartbeats 4000000 in
theorem rbytes (g q cap : Nat) (s : Nat → Sl10) (junk : List Value) (hq1 : 1 ≤ q) (hq : q ≤ 8) (hW : ∀ j, j < 8 → okS (s j)) : Fnc Try.prog 32 [lv g q cap] [lb g q s junk] (Ret (.string (full (str (bL s q)) 48)) [lb g q s junk]) := by
  refine fn_intro Try.func32 (by kernel_rfl) ?_
  repeat' ((conv => whnf); first
      | refine loop_rule [4, 3] (fun vs M m => ∃ (i : Nat) (R : Own), vs = [.int .i64 i, R.val (4 * i)] ∧ i ≤ q ∧ R.ok 1 (4 * i) (u8s (bL s i)) ∧ m = q - i ∧ M = R.blk 5 (u8s (bL s i)) ++ [lb g q s junk]) rfl ?_ ?_
      | refine ld1_lit ?_
      | refine ldN_lit ?_
      | refine nw (fun n => ?_)
      | refine st_lit rfl ?_
      | refine need (by first | rfl | omega) ?_
      | (refine wr (fun z hz => ?_); (try rw [Int.tdiv_eq_ediv_of_nonneg (by omega)] at hz); rw [w64 (by omega) (by omega)] at hz; subst hz)
      | (refine zv (fun z hz => ?_); (try rw [Int.tmod_eq_emod_of_nonneg (by omega)] at hz); subst hz)
      | (refine ifs (fun h => ?_) (fun h => ?_) <;> (try (exfalso; first | omega | with_reducible contradiction | with_reducible exact h rfl))))
  · exact fin_all ⟨_, 0, .nil, rfl, by omega, ⟨by rw [show (u8s (bL s 0)).length = (bL s 0).length by simp [u8s], bL_len], rfl⟩, rfl, rfl⟩
  rintro vs junk1 M' m ⟨i, R, rfl, hi, hR, rfl, rfl⟩
  have hL := bL_len s i
  repeat' ((conv => whnf); first
      | refine loop_rule [7, 5, 6] (fun vs M m => ∃ k : Nat, vs = [.int .i64 k, .int .i64 (biX (s i) k), .int .i64 (pw k)] ∧ k ≤ 4 ∧ m = 4 - k ∧ M = R.blk 5 (u8s (bL s i)) ++ [lb g q s junk]) rfl ?_ ?_
      | refine ld1_lit ?_
      | refine ldN_lit ?_
      | refine nw (fun n => ?_)
      | refine st_lit rfl ?_
      | refine need (by first | rfl | omega) ?_
      | (refine wr (fun z hz => ?_); (try rw [Int.tdiv_eq_ediv_of_nonneg (by omega)] at hz); rw [w64 (by omega) (by omega)] at hz; subst hz)
      | (refine zv (fun z hz => ?_); (try rw [Int.tmod_eq_emod_of_nonneg (by omega)] at hz); subst hz)
      | (refine ifs (fun h => ?_) (fun h => ?_) <;> (try (exfalso; first | omega | with_reducible contradiction | with_reducible exact h rfl))))
  · exact fin_all ⟨_, 0, by rw [biX_0, show pw 0 = 1 by unfold pw; rfl]; rfl, by omega, rfl, rfl⟩
  · rintro vs junk2 M' m ⟨k, rfl, hk, rfl, rfl⟩
    have hb := biX_k (s i) (k := k) (by omega)
    have hcase : k = 0 ∨ k = 1 ∨ k = 2 ∨ k = 3 ∨ k = 4 := by omega
    rcases hcase with rfl | rfl | rfl | rfl | rfl
    · rw [show pw 0 = 1 by unfold pw; rfl]
      rcases hv : (s i).v 0 <;> rcases hd : (s i).d 0
      all_goals have hn := biX_n0 (s i)
      all_goals rw [hv, hd] at hn
      all_goals repeat' ((conv => whnf); first
          | (refine nv (fun z hz => ?_); (try simp at hz); replace hz := hz.symm; subst hz)
          | refine ld1_row (v := .bool true) (ll_get' (i := i) (k := 1) (by omega) (by omega) (by omega) (congrArg (fun b => some (Value.bool b)) hv)) ?_
          | refine ld1_row (v := .bool false) (ll_get' (i := i) (k := 1) (by omega) (by omega) (by omega) (congrArg (fun b => some (Value.bool b)) hv)) ?_
          | refine ld1_row (v := .bool true) (ll_get' (i := i) (k := 5) (by omega) (by omega) (by omega) (congrArg (fun b => some (Value.bool b)) hd)) ?_
          | refine ld1_row (v := .bool false) (ll_get' (i := i) (k := 5) (by omega) (by omega) (by omega) (congrArg (fun b => some (Value.bool b)) hd)) ?_
          | refine ld1_lit ?_
          | refine ldN_lit ?_
          | refine nw (fun n => ?_)
          | refine st_lit rfl ?_
          | refine need (by first | rfl | omega) ?_
          | (refine wr (fun z hz => ?_); (try rw [Int.tdiv_eq_ediv_of_nonneg (by omega)] at hz); rw [w64 (by omega) (by omega)] at hz; subst hz)
          | (refine zv (fun z hz => ?_); (try rw [Int.tmod_eq_emod_of_nonneg (by omega)] at hz); subst hz)
          | (refine ifs (fun h => ?_) (fun h => ?_) <;> (try (exfalso; first | omega | with_reducible contradiction | with_reducible exact h rfl))))
      all_goals (conv => whnf)
      all_goals first | done | refine ⟨rfl, fin_all ⟨4 - 1, by omega, 1, ?_, by omega, rfl, rfl⟩⟩
      all_goals (rw [hn, show pw 1 = 2 by unfold pw; rfl]; simp)
    · rw [show pw 1 = 2 by unfold pw; rfl]
      rcases hv : (s i).v 1 <;> rcases hd : (s i).d 1
      all_goals have hn := biX_n1 (s i)
      all_goals rw [hv, hd] at hn
      all_goals repeat' ((conv => whnf); first
          | (refine nv (fun z hz => ?_); (try simp at hz); replace hz := hz.symm; subst hz)
          | refine ld1_row (v := .bool true) (ll_get' (i := i) (k := 2) (by omega) (by omega) (by omega) (congrArg (fun b => some (Value.bool b)) hv)) ?_
          | refine ld1_row (v := .bool false) (ll_get' (i := i) (k := 2) (by omega) (by omega) (by omega) (congrArg (fun b => some (Value.bool b)) hv)) ?_
          | refine ld1_row (v := .bool true) (ll_get' (i := i) (k := 6) (by omega) (by omega) (by omega) (congrArg (fun b => some (Value.bool b)) hd)) ?_
          | refine ld1_row (v := .bool false) (ll_get' (i := i) (k := 6) (by omega) (by omega) (by omega) (congrArg (fun b => some (Value.bool b)) hd)) ?_
          | refine ld1_lit ?_
          | refine ldN_lit ?_
          | refine nw (fun n => ?_)
          | refine st_lit rfl ?_
          | refine need (by first | rfl | omega) ?_
          | (refine wr (fun z hz => ?_); (try rw [Int.tdiv_eq_ediv_of_nonneg (by omega)] at hz); rw [w64 (by omega) (by omega)] at hz; subst hz)
          | (refine zv (fun z hz => ?_); (try rw [Int.tmod_eq_emod_of_nonneg (by omega)] at hz); subst hz)
          | (refine ifs (fun h => ?_) (fun h => ?_) <;> (try (exfalso; first | omega | with_reducible contradiction | with_reducible exact h rfl))))
      all_goals (conv => whnf)
      all_goals first | done | refine ⟨rfl, fin_all ⟨4 - 2, by omega, 2, ?_, by omega, rfl, rfl⟩⟩
      all_goals (rw [hn, show pw 2 = 4 by unfold pw; rfl]; simp)
    · rw [show pw 2 = 4 by unfold pw; rfl]
      rcases hv : (s i).v 2 <;> rcases hd : (s i).d 2
      all_goals have hn := biX_n2 (s i)
      all_goals rw [hv, hd] at hn
      all_goals repeat' ((conv => whnf); first
          | (refine nv (fun z hz => ?_); (try simp at hz); replace hz := hz.symm; subst hz)
          | refine ld1_row (v := .bool true) (ll_get' (i := i) (k := 3) (by omega) (by omega) (by omega) (congrArg (fun b => some (Value.bool b)) hv)) ?_
          | refine ld1_row (v := .bool false) (ll_get' (i := i) (k := 3) (by omega) (by omega) (by omega) (congrArg (fun b => some (Value.bool b)) hv)) ?_
          | refine ld1_row (v := .bool true) (ll_get' (i := i) (k := 7) (by omega) (by omega) (by omega) (congrArg (fun b => some (Value.bool b)) hd)) ?_
          | refine ld1_row (v := .bool false) (ll_get' (i := i) (k := 7) (by omega) (by omega) (by omega) (congrArg (fun b => some (Value.bool b)) hd)) ?_
          | refine ld1_lit ?_
          | refine ldN_lit ?_
          | refine nw (fun n => ?_)
          | refine st_lit rfl ?_
          | refine need (by first | rfl | omega) ?_
          | (refine wr (fun z hz => ?_); (try rw [Int.tdiv_eq_ediv_of_nonneg (by omega)] at hz); rw [w64 (by omega) (by omega)] at hz; subst hz)
          | (refine zv (fun z hz => ?_); (try rw [Int.tmod_eq_emod_of_nonneg (by omega)] at hz); subst hz)
          | (refine ifs (fun h => ?_) (fun h => ?_) <;> (try (exfalso; first | omega | with_reducible contradiction | with_reducible exact h rfl))))
      all_goals (conv => whnf)
      all_goals first | done | refine ⟨rfl, fin_all ⟨4 - 3, by omega, 3, ?_, by omega, rfl, rfl⟩⟩
      all_goals (rw [hn, show pw 3 = 8 by unfold pw; rfl]; simp)
    · rw [show pw 3 = 8 by unfold pw; rfl]
      rcases hv : (s i).v 3 <;> rcases hd : (s i).d 3
      all_goals have hn := biX_n3 (s i)
      all_goals rw [hv, hd] at hn
      all_goals repeat' ((conv => whnf); first
          | (refine nv (fun z hz => ?_); (try simp at hz); replace hz := hz.symm; subst hz)
          | refine ld1_row (v := .bool true) (ll_get' (i := i) (k := 4) (by omega) (by omega) (by omega) (congrArg (fun b => some (Value.bool b)) hv)) ?_
          | refine ld1_row (v := .bool false) (ll_get' (i := i) (k := 4) (by omega) (by omega) (by omega) (congrArg (fun b => some (Value.bool b)) hv)) ?_
          | refine ld1_row (v := .bool true) (ll_get' (i := i) (k := 8) (by omega) (by omega) (by omega) (congrArg (fun b => some (Value.bool b)) hd)) ?_
          | refine ld1_row (v := .bool false) (ll_get' (i := i) (k := 8) (by omega) (by omega) (by omega) (congrArg (fun b => some (Value.bool b)) hd)) ?_
          | refine ld1_lit ?_
          | refine ldN_lit ?_
          | refine nw (fun n => ?_)
          | refine st_lit rfl ?_
          | refine need (by first | rfl | omega) ?_
          | (refine wr (fun z hz => ?_); (try rw [Int.tdiv_eq_ediv_of_nonneg (by omega)] at hz); rw [w64 (by omega) (by omega)] at hz; subst hz)
          | (refine zv (fun z hz => ?_); (try rw [Int.tmod_eq_emod_of_nonneg (by omega)] at hz); subst hz)
          | (refine ifs (fun h => ?_) (fun h => ?_) <;> (try (exfalso; first | omega | with_reducible contradiction | with_reducible exact h rfl))))
      all_goals (conv => whnf)
      all_goals first | done | refine ⟨rfl, fin_all ⟨4 - 4, by omega, 4, ?_, by omega, rfl, rfl⟩⟩
      all_goals (rw [hn, show pw 4 = 16 by unfold pw; rfl]; simp)
    · have hw := hW i (by omega)
      unfold okS at hw
      repeat' ((conv => whnf); first
          | refine draw_any 15 [(0, true), (1, true), (2, true), (3, true), (4, true), (8, true), (9, true), (10, true), (11, true), (12, true), (13, true), (5, true), (6, true), (7, true), (14, false), (15, true), (16, false), (17, false), (18, true)] _ rfl (by kernel_rfl) (kept1 (n := g) ?_)
          | refine kept1 ?_
          | (refine nv (fun z hz => ?_); (try simp at hz); replace hz := hz.symm; subst hz)
          | refine fld1_row (v := .int .i64 (s i).g) (ll_get' (i := i) (k := 0) (by omega) (by omega) (by omega) rfl) ?_
          | refine ld1_row (v := .int .i64 (s i).lv) (ll_get' (i := i) (k := 9) (by omega) (by omega) (by omega) rfl) ?_
          | (refine wr (fun z hz => ?_); rw [wb (by omega) (by omega)] at hz; subst hz)
          | refine app_at (S := R) (n := 4 * i) (e := 5) (xs := u8s (bL s i)) (news := [_, _, _, _]) rfl rfl rfl rfl rfl hR rfl (one4 rfl rfl rfl rfl) (by show (4 * i + 4) * 1 ≤ _; omega) (by omega) (Ev.cells_from rfl) (fun R' hR' => ?_)
          | refine ld1_lit ?_
          | refine ldN_lit ?_
          | refine nw (fun n => ?_)
          | refine st_lit rfl ?_
          | refine need (by first | rfl | omega) ?_
          | (refine wr (fun z hz => ?_); (try rw [Int.tdiv_eq_ediv_of_nonneg (by omega)] at hz); rw [w64 (by omega) (by omega)] at hz; subst hz)
          | (refine zv (fun z hz => ?_); (try rw [Int.tmod_eq_emod_of_nonneg (by omega)] at hz); subst hz)
          | (refine ifs (fun h => ?_) (fun h => ?_) <;> (try (exfalso; first | omega | with_reducible contradiction | with_reducible exact h rfl))))
      all_goals (conv => whnf)
      refine ⟨rfl, fin_drop (fin_all ⟨q - (i + 1), by omega, i + 1, R', rfl, by omega, ?_, rfl, ?_⟩)⟩
      · rw [bL_next]; exact hR'
      · rw [bL_next]
  · obtain rfl : i = q := by omega
    repeat' ((conv => whnf); first
        | refine b2s_own (t := 5) (l := bL s i) hR rfl rfl rfl ?_
        | refine call_val (full01 _ 48 (by omega) (by rw [Ev.str_size, bL_len]; omega)) ?_
        | exact fin_look g ⟨rfl, rfl⟩
        | refine ld1_lit ?_
        | refine ldN_lit ?_
        | refine nw (fun n => ?_)
        | refine st_lit rfl ?_
        | refine need (by first | rfl | omega) ?_
        | (refine wr (fun z hz => ?_); (try rw [Int.tdiv_eq_ediv_of_nonneg (by omega)] at hz); rw [w64 (by omega) (by omega)] at hz; subst hz)
        | (refine zv (fun z hz => ?_); (try rw [Int.tmod_eq_emod_of_nonneg (by omega)] at hz); subst hz)
        | (refine ifs (fun h => ?_) (fun h => ?_) <;> (try (exfalso; first | omega | with_reducible contradiction | with_reducible exact h rfl))))
end Go.Proofs.Ytlmhagngbfcdkaa.Slots
