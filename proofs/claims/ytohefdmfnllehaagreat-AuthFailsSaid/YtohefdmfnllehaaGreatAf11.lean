/- Nodes: halves, ways, sides. -/
import Derived.Test.YtohefdmfnllehaaGreatAf10
import Derived.Test.YtohefdmfnllehaaGreatAf8
import Derived.Test.YtohefdmfnllehaaGreatProg
import Derived.Test.YtohefdmfnllehaaGreatAf3
import Derived.KernelRfl
namespace Go.Proofs.YtohefdmfnllehaaGreat.Node
open Go Ev Sha Aes Orc
set_option linter.unusedVariables false
set_option linter.unusedSimpArgs false
set_option maxRecDepth 100000
def mayN (s : ByteArray) (side : Int) : Int := if s.size ≠ 64 then 6 else if side < 0 ∨ 1 < side then 3 else 0
theorem nmay (s : ByteArray) (side : Int) : Fnc Tryz.prog 251 [.string s, .int .i64 side] [] (Ret (.int .i64 (mayN s side)) []) := by
  refine fn_intro Tryz.func251 (by kernel_rfl) ?_
  repeat' ((conv => whnf); first
      | refine ld1_lit ?_
      | refine ldN_lit ?_
      | refine nw (fun n => ?_)
      | refine bld ?_
      | refine st_lit rfl ?_
      | refine need (by first | rfl | omega) ?_
      | (refine wr (fun z hz => ?_); (try rw [Int.tdiv_eq_ediv_of_nonneg (by omega)] at hz); rw [w64 (by omega) (by omega)] at hz; subst hz)
      | (refine zv (fun z hz => ?_); (try rw [Int.tmod_eq_emod_of_nonneg (by omega)] at hz); subst hz)
      | (refine ifs (fun h => ?_) (fun h => ?_) <;> (try (exfalso; first | omega | with_reducible contradiction | with_reducible exact h rfl))))
  all_goals (conv => whnf)
  all_goals exact fin_nil ⟨ret_int (by unfold mayN; (repeat' split) <;> omega), rfl⟩
theorem half_cells {s : ByteArray} (hs : s.size = 64) {side : Nat} (h : side ≤ 1) : (((s.extract (32 * side) s.size).data.toList.map fun x => Value.int .u8 (x.toNat : Int)).take 32) = dgV (halfD s side) := by
  have hsl : s.data.toList.length = 64 := hs
  have hd : (s.extract (32 * side) s.size).data.toList = s.data.toList.drop (32 * side) := by
    simp [ByteArray.data_extract]
    rw [List.take_of_length_le (by rw [List.length_drop]; rw [hsl, hs]; exact Nat.le_refl _)]
  rw [hd]
  unfold dgV halfD
  apply List.ext_getElem?
  intro j
  rw [List.getElem?_take]
  by_cases hj : j < 32
  · rw [if_pos hj, List.getElem?_map, List.getElem?_drop, List.getElem?_map, List.getElem?_range hj]
    have hl : 32 * side + j < s.data.toList.length := by omega
    have e : (s.data.toList[32 * side + j]?).getD 0 = s.data.toList[32 * side + j] := by rw [List.getElem?_eq_getElem hl]; rfl
    rw [List.getElem?_eq_getElem hl]
    show some (Value.int .u8 ((s.data.toList[32 * side + j]).toNat : Int)) = some (.int .u8 (((s.data.toList[32 * side + j]?).getD 0).toNat : Int))
    rw [e]
  · rw [if_neg hj, List.getElem?_eq_none (by simp; omega)]
theorem st_dgl {P : Program} {M : List Blk} {n : Nat} {t : TypeId} {l : List Value} {a b : Nat → UInt8} {f : Blk → List Blk} {K : List Blk → Prop} [z : Zip M n (.row (dgV a) t) f] (hl : l = dgV b) (hk : K (f ⟨n, .row (dgV b) t⟩)) : StN P M n 0 l K := by
  subst hl; exact st_dg hk
theorem dg_u8 (a : Nat → UInt8) : dgV a = u8s (dl a) ++ [] := by rw [List.append_nil]; exact dgV_u8 a
attribute [local irreducible] dgV D convert Builtin.copy_ Builtin.append_ Instr.makeSlice
theorem split_ (s : ByteArray) (side : Nat) (h : side ≤ 1) : Fnc Tryz.prog 223 [.string s, .int .i64 side] [] (Ret (.tuple #[.agg (dgV (splitD s side)).toArray, .int .i64 (sizeE s)]) []) := by
  have hm := nmay s side
  by_cases hs : s.size = 64
  · rw [show mayN s side = 0 by unfold mayN; rw [if_neg (by omega), if_neg (by omega)]] at hm
    rw [show splitD s side = halfD s side by unfold splitD; rw [if_pos hs], show sizeE s = 0 by unfold sizeE; rw [if_pos hs]]
    have hc := half_cells hs h
    refine fn_intro Tryz.func223 (by kernel_rfl) ?_
    repeat' ((conv => whnf); first
        | refine nw_z (fun n => ?_)
        | refine call_val hm ?_
        | refine draw_any 5 [(0, true), (1, true), (2, true), (3, true), (4, true), (5, false)] [] rfl (by kernel_rfl) ?_
        | refine kept_nil ?_
        | refine sv_id ?_
        | refine nv_eq (a := 0) rfl ?_
        | refine nv_eq (a := 32) rfl ?_
        | refine copy_head rfl rfl rfl (by rw [ByteArray.size_extract]; omega) ?_
        | refine st_dgl hc ?_
        | refine ldN_dg rfl ?_
        | refine force_of ?_
        | refine need (dgV_len _) ?_
        | refine st_dg ?_
        | refine ld1_lit ?_
        | refine ldN_lit ?_
        | refine nw (fun n => ?_)
        | refine bld ?_
        | refine st_lit rfl ?_
        | refine need (by first | rfl | omega) ?_
        | (refine wr (fun z hz => ?_); (try rw [Int.tdiv_eq_ediv_of_nonneg (by omega)] at hz); rw [w64 (by omega) (by omega)] at hz; subst hz)
        | (refine zv (fun z hz => ?_); (try rw [Int.tmod_eq_emod_of_nonneg (by omega)] at hz); subst hz)
        | (refine ifs (fun h => ?_) (fun h => ?_) <;> (try (exfalso; first | omega | with_reducible contradiction | with_reducible exact h rfl))))
    all_goals (conv => whnf)
    all_goals exact fin_nil ⟨rfl, rfl⟩
  · rw [show mayN s side = 6 by unfold mayN; rw [if_pos hs]] at hm
    rw [show splitD s side = zD by unfold splitD; rw [if_neg hs], show sizeE s = 6 by unfold sizeE; rw [if_neg hs]]
    refine fn_intro Tryz.func223 (by kernel_rfl) ?_
    repeat' ((conv => whnf); first
        | refine nw_z (fun n => ?_)
        | refine call_val hm ?_
        | refine ldN_dg rfl ?_
        | refine force_of ?_
        | refine need (dgV_len _) ?_
        | refine st_dg ?_
        | refine ld1_lit ?_
        | refine ldN_lit ?_
        | refine nw (fun n => ?_)
        | refine bld ?_
        | refine st_lit rfl ?_
        | refine need (by first | rfl | omega) ?_
        | (refine wr (fun z hz => ?_); (try rw [Int.tdiv_eq_ediv_of_nonneg (by omega)] at hz); rw [w64 (by omega) (by omega)] at hz; subst hz)
        | (refine zv (fun z hz => ?_); (try rw [Int.tmod_eq_emod_of_nonneg (by omega)] at hz); subst hz)
        | (refine ifs (fun h => ?_) (fun h => ?_) <;> (try (exfalso; first | omega | with_reducible contradiction | with_reducible exact h rfl))))
    all_goals (conv => whnf)
    all_goals exact fin_nil ⟨rfl, rfl⟩
theorem with_ (s : ByteArray) (side : Nat) (d : Dg) (h : side ≤ 1) : Fnc Tryz.prog 226 [.string s, .int .i64 side, .agg (dgV d).toArray] [] (Ret (.tuple #[.string (withS s side d), .int .i64 (sizeE s)]) []) := by
  have hm := nmay s side
  by_cases hs : s.size = 64
  · rw [show mayN s side = 0 by unfold mayN; rw [if_neg (by omega), if_neg (by omega)]] at hm
    rw [show sizeE s = 0 by unfold sizeE; rw [if_pos hs]]
    have hside : side = 0 ∨ side = 1 := by omega
    rcases hside with rfl | rfl
    · rw [show withS s 0 d = str (dl d) ++ s.extract 32 s.size by unfold withS; rw [if_pos hs, if_pos rfl, hs]]
      refine fn_intro Tryz.func226 (by kernel_rfl) ?_
      repeat' ((conv => whnf); first
          | refine force_of ?_
          | refine nw_dg (fun n => ?_)
          | refine call_val hm ?_
          | refine draw_any 5 [(0, true), (2, true), (3, true), (1, false), (4, true), (5, true), (6, true)] [] rfl (by kernel_rfl) ?_
          | refine kept_nil ?_
          | refine sv_id ?_
          | refine nv_eq (a := 0) rfl ?_
          | refine nv_eq (a := 32) rfl ?_
          | refine b2s_row (l := dl d) (junk := []) (dg_u8 d) rfl rfl rfl (by rw [dl_len]) ?_
          | refine need (by rw [show IntKind.i64.max = 9223372036854775807 from rfl, ByteArray.size_extract, Ev.str_size, dl_len]; omega) ?_
          | refine ld1_lit ?_
          | refine ldN_lit ?_
          | refine nw (fun n => ?_)
          | refine bld ?_
          | refine st_lit rfl ?_
          | refine need (by first | rfl | omega) ?_
          | (refine wr (fun z hz => ?_); (try rw [Int.tdiv_eq_ediv_of_nonneg (by omega)] at hz); rw [w64 (by omega) (by omega)] at hz; subst hz)
          | (refine zv (fun z hz => ?_); (try rw [Int.tmod_eq_emod_of_nonneg (by omega)] at hz); subst hz)
          | (refine ifs (fun h => ?_) (fun h => ?_) <;> (try (exfalso; first | omega | with_reducible contradiction | with_reducible exact h rfl))))
      all_goals (conv => whnf)
      all_goals exact fin_nil ⟨rfl, rfl⟩
    · rw [show withS s 1 d = s.extract 0 32 ++ str (dl d) by unfold withS; rw [if_pos hs, if_neg (by decide)]]
      refine fn_intro Tryz.func226 (by kernel_rfl) ?_
      repeat' ((conv => whnf); first
          | refine force_of ?_
          | refine nw_dg (fun n => ?_)
          | refine call_val hm ?_
          | refine draw_any 6 [(0, true), (1, true), (2, true), (3, false), (4, true), (5, true), (6, true)] [] rfl (by kernel_rfl) ?_
          | refine kept_nil ?_
          | refine sv_id ?_
          | refine nv_eq (a := 0) rfl ?_
          | refine nv_eq (a := 32) rfl ?_
          | refine b2s_row (l := dl d) (junk := []) (dg_u8 d) rfl rfl rfl (by rw [dl_len]) ?_
          | refine need (by rw [show IntKind.i64.max = 9223372036854775807 from rfl, ByteArray.size_extract, Ev.str_size, dl_len]; omega) ?_
          | refine ld1_lit ?_
          | refine ldN_lit ?_
          | refine nw (fun n => ?_)
          | refine bld ?_
          | refine st_lit rfl ?_
          | refine need (by first | rfl | omega) ?_
          | (refine wr (fun z hz => ?_); (try rw [Int.tdiv_eq_ediv_of_nonneg (by omega)] at hz); rw [w64 (by omega) (by omega)] at hz; subst hz)
          | (refine zv (fun z hz => ?_); (try rw [Int.tmod_eq_emod_of_nonneg (by omega)] at hz); subst hz)
          | (refine ifs (fun h => ?_) (fun h => ?_) <;> (try (exfalso; first | omega | with_reducible contradiction | with_reducible exact h rfl))))
      all_goals (conv => whnf)
      all_goals exact fin_nil ⟨rfl, rfl⟩
  · rw [show mayN s side = 6 by unfold mayN; rw [if_pos hs]] at hm
    rw [show sizeE s = 6 by unfold sizeE; rw [if_neg hs], show withS s side d = ByteArray.empty by unfold withS; rw [if_neg hs]]
    refine fn_intro Tryz.func226 (by kernel_rfl) ?_
    repeat' ((conv => whnf); first
        | refine force_of ?_
        | refine nw_dg (fun n => ?_)
        | refine call_val hm ?_
        | refine ld1_lit ?_
        | refine ldN_lit ?_
        | refine nw (fun n => ?_)
        | refine bld ?_
        | refine st_lit rfl ?_
        | refine need (by first | rfl | omega) ?_
        | (refine wr (fun z hz => ?_); (try rw [Int.tdiv_eq_ediv_of_nonneg (by omega)] at hz); rw [w64 (by omega) (by omega)] at hz; subst hz)
        | (refine zv (fun z hz => ?_); (try rw [Int.tmod_eq_emod_of_nonneg (by omega)] at hz); subst hz)
        | (refine ifs (fun h => ?_) (fun h => ?_) <;> (try (exfalso; first | omega | with_reducible contradiction | with_reducible exact h rfl))))
    all_goals (conv => whnf)
    all_goals exact fin_nil ⟨rfl, rfl⟩
/-! Ways. -/
def at_ (l : Nat) : Nat → Nat
  | 0 => l + 63
  | k + 1 => (at_ l k - 1) / 2
theorem at_0 (l : Nat) : at_ l 0 = l + 63 := rfl
theorem at_s (l k : Nat) : at_ l (k + 1) = (at_ l k - 1) / 2 := rfl
theorem at_all {l : Nat} (hl : l < 64) : (63 ≤ at_ l 0 ∧ at_ l 0 ≤ 126) ∧ (31 ≤ at_ l 1 ∧ at_ l 1 ≤ 62) ∧ (15 ≤ at_ l 2 ∧ at_ l 2 ≤ 30) ∧ (7 ≤ at_ l 3 ∧ at_ l 3 ≤ 14) ∧ (3 ≤ at_ l 4 ∧ at_ l 4 ≤ 6) ∧ (1 ≤ at_ l 5 ∧ at_ l 5 ≤ 2) ∧ at_ l 6 = 0 := by
  have h0 := at_0 l
  have h1 : at_ l 1 = (at_ l 0 - 1) / 2 := rfl
  have h2 : at_ l 2 = (at_ l 1 - 1) / 2 := rfl
  have h3 : at_ l 3 = (at_ l 2 - 1) / 2 := rfl
  have h4 : at_ l 4 = (at_ l 3 - 1) / 2 := rfl
  have h5 : at_ l 5 = (at_ l 4 - 1) / 2 := rfl
  have h6 : at_ l 6 = (at_ l 5 - 1) / 2 := rfl
  omega
theorem at_pos {l k : Nat} (hl : l < 64) (hk : k < 6) : 0 < at_ l k := by
  have h := at_all hl
  have : k = 0 ∨ k = 1 ∨ k = 2 ∨ k = 3 ∨ k = 4 ∨ k = 5 := by omega
  rcases this with rfl | rfl | rfl | rfl | rfl | rfl <;> omega
theorem at_6 {l : Nat} (hl : l < 64) : at_ l 6 = 0 := (at_all hl).2.2.2.2.2.2
theorem at_le {l k : Nat} (hl : l < 64) (hk : k ≤ 6) : at_ l k ≤ 126 := by
  have h := at_all hl
  have : k = 0 ∨ k = 1 ∨ k = 2 ∨ k = 3 ∨ k = 4 ∨ k = 5 ∨ k = 6 := by omega
  rcases this with rfl | rfl | rfl | rfl | rfl | rfl | rfl <;> omega
theorem at_node {l k : Nat} (hl : l < 64) (hk : k < 6) : at_ l (k + 1) < 63 := by
  have h := at_all hl
  have : k = 0 ∨ k = 1 ∨ k = 2 ∨ k = 3 ∨ k = 4 ∨ k = 5 := by omega
  rcases this with rfl | rfl | rfl | rfl | rfl | rfl <;> simp only [Nat.zero_add, Nat.reduceAdd] <;> omega
theorem at_inj {l j i : Nat} (hl : l < 64) (hj : j ≤ i) (hi : i < 6) (h : at_ l (j + 1) = at_ l (i + 1)) : j = i := by
  have ha := at_all hl
  have : i = 0 ∨ i = 1 ∨ i = 2 ∨ i = 3 ∨ i = 4 ∨ i = 5 := by omega
  have hjj : j = 0 ∨ j = 1 ∨ j = 2 ∨ j = 3 ∨ j = 4 ∨ j = 5 := by omega
  rcases this with rfl | rfl | rfl | rfl | rfl | rfl <;> rcases hjj with rfl | rfl | rfl | rfl | rfl | rfl <;> first | rfl | (exfalso; omega) | (exfalso; simp only [Nat.zero_add, Nat.reduceAdd] at h; omega)
def side (l i : Nat) : Nat := (at_ l i + 1) % 2
theorem side_le (l i : Nat) : side l i ≤ 1 := by unfold side; omega
def pathV (l k : Nat) : List Value := (List.range k).map fun i => .int .i64 (at_ l (i + 1) : Nat)
theorem pathV_len (l k : Nat) : (pathV l k).length = k := by unfold pathV; simp
theorem pathV_succ (l k : Nat) : pathV l (k + 1) = pathV l k ++ [.int .i64 (at_ l (k + 1) : Nat)] := by unfold pathV; rw [List.range_succ, List.map_append]; rfl
theorem pathV_at {l k n : Nat} (h : k < n) : (pathV l n)[k]? = some (.int .i64 (at_ l (k + 1) : Nat)) := by unfold pathV; rw [List.getElem?_map, List.getElem?_range h]; rfl
attribute [local irreducible] at_ pathV
set_option maxHeartbeats 1000000 in
theorem path_ (l : Nat) (hl : l < 64) : Fnc Tryz.prog 220 [.int .i64 l] [] (fun e A => ∃ S : Own, S.ok 1 6 (pathV l 6) ∧ e = .returned (.tuple #[S.val 6, .int .i64 0]) ∧ A = S.blk 3 (pathV l 6)) := by
  have e0 := at_0 l
  refine fn_intro Tryz.func220 (by kernel_rfl) ?_
  repeat' ((conv => whnf); first
      | refine ld1_lit ?_
      | refine ldN_lit ?_
      | refine nw (fun n => ?_)
      | refine bld ?_
      | refine st_lit rfl ?_
      | refine need (by first | rfl | omega) ?_
      | (refine wr (fun z hz => ?_); (try rw [Int.tdiv_eq_ediv_of_nonneg (by omega)] at hz); rw [w64 (by omega) (by omega)] at hz; subst hz)
      | (refine zv (fun z hz => ?_); (try rw [Int.tmod_eq_emod_of_nonneg (by omega)] at hz); subst hz)
      | (refine ifs (fun h => ?_) (fun h => ?_) <;> (try (exfalso; first | omega | with_reducible contradiction | with_reducible exact h rfl))))
  all_goals (conv => whnf)
  refine loop_rule [4, 5] (fun vs M m => ∃ (k : Nat) (S : Own), vs = [S.val k, .int .i64 (at_ l k : Nat)] ∧ k ≤ 6 ∧ S.ok 1 k (pathV l k) ∧ m = 6 - k ∧ M = S.blk 3 (pathV l k)) rfl ?_ ?_
  · exact fin_all ⟨_, 0, .nil, by rw [e0]; rfl, by omega, ⟨by rw [pathV_len], rfl⟩, rfl, rfl⟩
  rintro vs junk M' m ⟨k, S, rfl, hk, hS, rfl, rfl⟩
  by_cases hk6 : k < 6
  · have hp := at_pos hl hk6
    have hle := at_le hl hk
    have es := at_s l k
    have e1 : (((at_ l k : Nat) : Int) - 1) / 2 = ((at_ l (k + 1) : Nat) : Int) := by omega
    repeat' ((conv => whnf); first
        | (refine wr (fun z hz => ?_); rw [Int.tdiv_eq_ediv_of_nonneg (by omega), e1, w64 (by omega) (by omega)] at hz; subst hz)
        | refine app_cells (S := S) (n := k) (m := 1) (e := 3) (xs := pathV l k) (news := [.int .i64 (at_ l (k + 1) : Nat)]) rfl rfl rfl rfl rfl hS rfl (by intro u hu; simp only [List.mem_singleton] at hu; subst hu; rfl) (by show (k + 1) * 8 ≤ _; omega) (by omega) cells_at (fun S' hS' => ?_)
        | refine ld1_lit ?_
        | refine ldN_lit ?_
        | refine nw (fun n => ?_)
        | refine bld ?_
        | refine st_lit rfl ?_
        | refine need (by first | rfl | omega) ?_
        | (refine wr (fun z hz => ?_); (try rw [Int.tdiv_eq_ediv_of_nonneg (by omega)] at hz); rw [w64 (by omega) (by omega)] at hz; subst hz)
        | (refine zv (fun z hz => ?_); (try rw [Int.tmod_eq_emod_of_nonneg (by omega)] at hz); subst hz)
        | (refine ifs (fun h => ?_) (fun h => ?_) <;> (try (exfalso; first | omega | with_reducible contradiction | with_reducible exact h rfl))))
    all_goals (conv => whnf)
    exact ⟨rfl, fin_drop (fin_all ⟨6 - (k + 1), by omega, k + 1, S', rfl, by omega, by rw [pathV_succ]; exact hS', rfl, by rw [pathV_succ]⟩)⟩
  · obtain rfl : k = 6 := by omega
    have e6 := at_6 hl
    repeat' ((conv => whnf); first
        | refine ld1_lit ?_
        | refine ldN_lit ?_
        | refine nw (fun n => ?_)
        | refine bld ?_
        | refine st_lit rfl ?_
        | refine need (by first | rfl | omega) ?_
        | (refine wr (fun z hz => ?_); (try rw [Int.tdiv_eq_ediv_of_nonneg (by omega)] at hz); rw [w64 (by omega) (by omega)] at hz; subst hz)
        | (refine zv (fun z hz => ?_); (try rw [Int.tmod_eq_emod_of_nonneg (by omega)] at hz); subst hz)
        | (refine ifs (fun h => ?_) (fun h => ?_) <;> (try (exfalso; first | omega | with_reducible contradiction | with_reducible exact h rfl))))
    all_goals (conv => whnf)
    exact fin_all ⟨S, hS, rfl, rfl⟩
theorem side_ (l i : Nat) (hl : l < 64) (hi : i < 6) : Fnc Tryz.prog 222 [.int .i64 l, .int .i64 (at_ l (i + 1) : Nat)] [] (Ret (.tuple #[.int .i64 (side l i : Nat), .int .i64 0]) []) := by
  have e0 := at_0 l
  refine fn_intro Tryz.func222 (by kernel_rfl) ?_
  repeat' ((conv => whnf); first
      | refine ld1_lit ?_
      | refine ldN_lit ?_
      | refine nw (fun n => ?_)
      | refine bld ?_
      | refine st_lit rfl ?_
      | refine need (by first | rfl | omega) ?_
      | (refine wr (fun z hz => ?_); (try rw [Int.tdiv_eq_ediv_of_nonneg (by omega)] at hz); rw [w64 (by omega) (by omega)] at hz; subst hz)
      | (refine zv (fun z hz => ?_); (try rw [Int.tmod_eq_emod_of_nonneg (by omega)] at hz); subst hz)
      | (refine ifs (fun h => ?_) (fun h => ?_) <;> (try (exfalso; first | omega | with_reducible contradiction | with_reducible exact h rfl))))
  all_goals (conv => whnf)
  refine loop_rule [6] (fun vs M m => ∃ (k : Nat), vs = [.int .i64 (at_ l k : Nat)] ∧ k ≤ i ∧ m = 6 - k ∧ M = []) rfl ?_ ?_
  · exact fin_all ⟨_, 0, by rw [e0]; rfl, by omega, rfl, rfl⟩
  rintro vs junk M' m ⟨k, rfl, hk, rfl, rfl⟩
  have hp := at_pos hl (show k < 6 by omega)
  have hle := at_le hl (show k ≤ 6 by omega)
  have es := at_s l k
  have e1 : (((at_ l k : Nat) : Int) - 1) / 2 = ((at_ l (k + 1) : Nat) : Int) := by omega
  have hinj := at_inj (j := k) (i := i) hl hk hi
  repeat' ((conv => whnf); first
      | (refine wr (fun z hz => ?_); rw [Int.tdiv_eq_ediv_of_nonneg (by omega), e1, w64 (by omega) (by omega)] at hz; subst hz)
      | refine ld1_lit ?_
      | refine ldN_lit ?_
      | refine nw (fun n => ?_)
      | refine bld ?_
      | refine st_lit rfl ?_
      | refine need (by first | rfl | omega) ?_
      | (refine wr (fun z hz => ?_); (try rw [Int.tdiv_eq_ediv_of_nonneg (by omega)] at hz); rw [w64 (by omega) (by omega)] at hz; subst hz)
      | (refine zv (fun z hz => ?_); (try rw [Int.tmod_eq_emod_of_nonneg (by omega)] at hz); subst hz)
      | (refine ifs (fun h => ?_) (fun h => ?_) <;> (try (exfalso; first | omega | with_reducible contradiction | with_reducible exact h rfl))))
  all_goals (conv => whnf)
  · have hki : k = i := by omega
    subst hki
    exact fin_nil ⟨by unfold side; congr 4; try omega, rfl⟩
  · have hki : k ≠ i := by rintro rfl; omega
    exact ⟨rfl, fin_all ⟨6 - (k + 1), by omega, k + 1, rfl, by omega, rfl, rfl⟩⟩
end Go.Proofs.YtohefdmfnllehaaGreat.Node
/- Nodes: heights, bare trees. -/
namespace Go.Proofs.YtohefdmfnllehaaGreat.Node
open Go Ev Sha Aes Orc
open Rig (z64)
set_option linter.unusedVariables false
set_option linter.unusedSimpArgs false
set_option maxRecDepth 100000
/-- How many levels below the root a node is. -/
def dep (n : Nat) : Nat := if n = 0 then 0 else if n ≤ 2 then 1 else if n ≤ 6 then 2 else if n ≤ 14 then 3 else if n ≤ 30 then 4 else 5
theorem dep_le (n : Nat) : dep n ≤ 5 := by unfold dep; (repeat' split) <;> omega
theorem dep_up {n : Nat} (h : 0 < n) (hn : n < 63) : dep ((n - 1) / 2) + 1 = dep n := by unfold dep; (repeat' split) <;> omega
theorem dep_0 {n : Nat} (h : ¬ 0 < n) : dep n = 0 := by unfold dep; rw [if_pos (by omega)]
def high (n : Nat) : Nat := 6 - dep n
attribute [local irreducible] dep
theorem high_ (n : Nat) (hn : n < 63) : Fnc Tryz.prog 234 [.int .i64 n] [] (Ret (.tuple #[.int .i64 (high n : Nat), .int .i64 0]) []) := by
  have h5 := dep_le n
  refine fn_intro Tryz.func234 (by kernel_rfl) ?_
  repeat' ((conv => whnf); first
      | refine ld1_lit ?_
      | refine ldN_lit ?_
      | refine nw (fun n => ?_)
      | refine bld ?_
      | refine st_lit rfl ?_
      | refine need (by first | rfl | omega) ?_
      | (refine wr (fun z hz => ?_); (try rw [Int.tdiv_eq_ediv_of_nonneg (by omega)] at hz); rw [w64 (by omega) (by omega)] at hz; subst hz)
      | (refine zv (fun z hz => ?_); (try rw [Int.tmod_eq_emod_of_nonneg (by omega)] at hz); subst hz)
      | (refine ifs (fun h => ?_) (fun h => ?_) <;> (try (exfalso; first | omega | with_reducible contradiction | with_reducible exact h rfl))))
  all_goals (conv => whnf)
  refine loop_rule [0, 4] (fun vs M m => ∃ (k q : Nat), vs = [.int .i64 q, .int .i64 ((6 - k : Nat) : Int)] ∧ q < 63 ∧ dep q + k = dep n ∧ m = dep q ∧ M = []) rfl ?_ ?_
  · exact fin_all ⟨_, 0, n, rfl, hn, rfl, rfl, rfl⟩
  rintro vs junk M' m ⟨k, q, rfl, hq, hd, rfl, rfl⟩
  by_cases h0 : 0 < q
  · have hu := dep_up h0 hq
    have e1 : ((q : Int) - 1) / 2 = (((q - 1) / 2 : Nat) : Int) := by omega
    have e2 : (((6 - k : Nat) : Int) - 1) = ((6 - (k + 1) : Nat) : Int) := by omega
    repeat' ((conv => whnf); first
        | (refine wr (fun z hz => ?_); (first | rw [Int.tdiv_eq_ediv_of_nonneg (by omega), e1, w64 (by omega) (by omega)] at hz | rw [e2, w64 (by omega) (by omega)] at hz | rw [w64 (by omega) (by omega)] at hz); subst hz)
        | refine ld1_lit ?_
        | refine ldN_lit ?_
        | refine nw (fun n => ?_)
        | refine bld ?_
        | refine st_lit rfl ?_
        | refine need (by first | rfl | omega) ?_
        | (refine zv (fun z hz => ?_); (try rw [Int.tmod_eq_emod_of_nonneg (by omega)] at hz); subst hz)
        | (refine ifs (fun h => ?_) (fun h => ?_) <;> (try (exfalso; first | omega | with_reducible contradiction | with_reducible exact h rfl))))
    all_goals (conv => whnf)
    exact ⟨rfl, fin_all ⟨dep ((q - 1) / 2), by omega, k + 1, (q - 1) / 2, rfl, by omega, by omega, rfl, rfl⟩⟩
  · have hz := dep_0 h0
    repeat' ((conv => whnf); first
        | refine ld1_lit ?_
        | refine ldN_lit ?_
        | refine nw (fun n => ?_)
        | refine bld ?_
        | refine st_lit rfl ?_
        | refine need (by first | rfl | omega) ?_
        | (refine wr (fun z hz => ?_); (try rw [Int.tdiv_eq_ediv_of_nonneg (by omega)] at hz); rw [w64 (by omega) (by omega)] at hz; subst hz)
        | (refine zv (fun z hz => ?_); (try rw [Int.tmod_eq_emod_of_nonneg (by omega)] at hz); subst hz)
        | (refine ifs (fun h => ?_) (fun h => ?_) <;> (try (exfalso; first | omega | with_reducible contradiction | with_reducible exact h rfl))))
    all_goals (conv => whnf)
    exact fin_nil ⟨by unfold high; rw [show dep n = k by omega]; rfl, rfl⟩
/-! Bare trees. -/
def dup (d : Dg) : ByteArray := str (dl d) ++ str (dl d)
theorem dup_size (d : Dg) : (dup d).size = 64 := by unfold dup; rw [ByteArray.size_append, Ev.str_size, dl_len]
noncomputable def bare : Nat → ByteArray × Dg
  | 0 => (z64, D (p0 z64))
  | k + 1 => (dup (bare k).2, D (p1 (dup (bare k).2)))
theorem z64_size : z64.size = 64 := by unfold z64; rw [Ev.str_size]; rfl
theorem bare_size : ∀ k, (bare k).1.size = 64
  | 0 => z64_size
  | k + 1 => dup_size _
noncomputable def bareT (ts : List ByteArray) : Nat → List ByteArray
  | 0 => addT ts (p0 z64)
  | k + 1 => addT (bareT ts k) (p1 (bare (k + 1)).1)
theorem addT_len (ts : List ByteArray) (s : ByteArray) : (addT ts s).length ≤ ts.length + 1 := by
  unfold addT; split
  · omega
  · simp
theorem bareT_len (ts : List ByteArray) : ∀ k, (bareT ts k).length ≤ ts.length + k + 1
  | 0 => addT_len _ _
  | k + 1 => by
    have := addT_len (bareT ts k) (p1 (bare (k + 1)).1)
    have ih := bareT_len ts k
    show (addT (bareT ts k) (p1 (bare (k + 1)).1)).length ≤ _
    omega
theorem bare_0 : bare 0 = (z64, D (p0 z64)) := rfl
theorem bare_s (k : Nat) : bare (k + 1) = (dup (bare k).2, D (p1 (dup (bare k).2))) := rfl
theorem bareT_0 (ts : List ByteArray) : bareT ts 0 = addT ts (p0 z64) := rfl
theorem bareT_s (ts : List ByteArray) (k : Nat) : bareT ts (k + 1) = addT (bareT ts k) (p1 (bare (k + 1)).1) := rfl
theorem leafD_ok {ts : List ByteArray} {s : ByteArray} (h : s.size = 64) : leafD ts s = (addT ts (p0 s), D (p0 s)) := by unfold leafD; rw [if_pos h]
theorem nodeD_ok {ts : List ByteArray} {s : ByteArray} (h : s.size = 64) : nodeD ts s = (addT ts (p1 s), D (p1 s)) := by unfold nodeD; rw [if_pos h]
theorem sizeE_ok {s : ByteArray} (h : s.size = 64) : sizeE s = 0 := by unfold sizeE; rw [if_pos h]
attribute [local irreducible] dgV D convert Builtin.copy_ Builtin.append_ Instr.makeSlice bare bareT z64 dup addT p0 p1
set_option maxHeartbeats 2000000 in
theorem bare_ (o : Orc) (ht : Nat) (hh : ht ≤ 6) (hb : o.ts.length ≤ 1099511627000) : Fnc Tryz.prog 235 [pt o.on, .int .i64 ht] (orcM o) (RetO o (bareT o.ts ht) orcM (.string (bare ht).1)) := by
  have hz : str (List.replicate 64 0) = z64 := by unfold z64; rfl
  have zs := z64_size
  have hl := leaf_ o z64 (by omega)
  rw [leafD_ok zs, sizeE_ok zs] at hl
  refine fn_intro Tryz.func235 (by kernel_rfl) ?_
  repeat' ((conv => whnf); first
      | refine mk_row rfl rfl rfl rfl rfl (by decide) (by decide) (by decide) (fun n => ?_)
      | (refine b2s_row (t := 5) (l := List.replicate 64 0) (junk := []) (by simp [u8s]) rfl rfl rfl (by simp) ?_; rw [hz])
      | (refine call_go hl (.one takeG) (fun o' h1 h2 => ?_))
      | refine nw_z (fun n => ?_)
      | refine force_of ?_
      | refine need (dgV_len _) ?_
      | refine st_dg ?_
      | refine ld1_lit ?_
      | refine ldN_lit ?_
      | refine nw (fun n => ?_)
      | refine bld ?_
      | refine st_lit rfl ?_
      | refine need (by first | rfl | omega) ?_
      | (refine wr (fun z hz => ?_); (try rw [Int.tdiv_eq_ediv_of_nonneg (by omega)] at hz); rw [w64 (by omega) (by omega)] at hz; subst hz)
      | (refine zv (fun z hz => ?_); (try rw [Int.tmod_eq_emod_of_nonneg (by omega)] at hz); subst hz)
      | (refine ifs (fun h => ?_) (fun h => ?_) <;> (try (exfalso; first | omega | with_reducible contradiction | with_reducible exact h rfl))))
  all_goals (conv => whnf)
  revert n; intro dn
  revert n; intro zn
  refine loop_rule [5, 17] (fun vs M m => ∃ (k : Nat) (q : Orc), vs = [.string (bare k).1, .int .i64 k] ∧ k ≤ ht ∧ q.on = o.on ∧ q.ts = bareT o.ts k ∧ m = ht - k ∧ M = ⟨dn, .row (dgV (bare k).2) 57⟩ :: orcM q) rfl ?_ ?_
  · exact fin_g (A := ⟨dn, _⟩ :: orcM o') (.blk takeC (.one takeG)) ⟨_, 0, o', by rw [bare_0]; rfl, by omega, h1, by rw [h2, bareT_0], rfl, by rw [bare_0]⟩
  rintro vs junk M' m ⟨k, q, rfl, hk, hq1, hq2, rfl, rfl⟩
  have hbt := bareT_len o.ts k
  by_cases hk6 : k < ht
  · have hn := node_ q (dup (bare k).2) (by rw [hq2]; omega)
    rw [nodeD_ok (dup_size _), sizeE_ok (dup_size _), hq1] at hn
    have hd : str (dl (bare k).2) ++ str (dl (bare k).2) = dup (bare k).2 := by unfold dup; rfl
    have hds := dup_size (bare k).2
    repeat' ((conv => whnf); first
        | refine draw_tree 5 (.take 0 (.take 2 (.two 1 3 (.only 3 (.take 4 (.take 5 .nil))) (.only 1 (.take 4 (.take 5 .nil)))))) [] rfl (by kernel_rfl) ?_
        | refine And.intro ?_ ?_
        | refine kept_nil ?_
        | refine nv_eq (a := 0) rfl ?_
        | refine nv_eq (a := 32) rfl ?_
        | refine b2s_row (n := dn) (l := dl (bare k).2) (junk := []) (dg_u8 _) rfl rfl rfl (by rw [dl_len]) ?_
        | refine need (by rw [show IntKind.i64.max = 9223372036854775807 from rfl, Ev.str_size, dl_len]; omega) ?_
        | (refine sv_eq (a := dup (bare k).2) hd ?_)
        | (refine call_go hn (.one takeG) (fun o2 g1 g2 => ?_))
        | refine force_of ?_
        | refine need (dgV_len _) ?_
        | refine st_dg (n := dn) ?_
        | refine ld1_lit ?_
        | refine ldN_lit ?_
        | refine nw (fun n => ?_)
        | refine bld ?_
        | refine st_lit rfl ?_
        | refine need (by first | rfl | omega) ?_
        | (refine wr (fun z hz => ?_); (try rw [Int.tdiv_eq_ediv_of_nonneg (by omega)] at hz); rw [w64 (by omega) (by omega)] at hz; subst hz)
        | (refine zv (fun z hz => ?_); (try rw [Int.tmod_eq_emod_of_nonneg (by omega)] at hz); subst hz)
        | (refine ifs (fun h => ?_) (fun h => ?_) <;> (try (exfalso; first | omega | with_reducible contradiction | with_reducible exact h rfl))))
    all_goals (conv => whnf)
    all_goals first
      | rfl
      | exact fin_g (A := ⟨dn, _⟩ :: orcM o2) (.blk takeC (.one takeG)) ⟨ht - (k + 1), by omega, k + 1, o2, by rw [bare_s]; rfl, by omega, by rw [g1, hq1], by rw [g2, bareT_s, bare_s, hq2], rfl, by rw [bare_s]⟩
  · obtain rfl : k = ht := by omega
    repeat' ((conv => whnf); first
        | refine ld1_lit ?_
        | refine ldN_lit ?_
        | refine nw (fun n => ?_)
        | refine bld ?_
        | refine st_lit rfl ?_
        | refine need (by first | rfl | omega) ?_
        | (refine wr (fun z hz => ?_); (try rw [Int.tdiv_eq_ediv_of_nonneg (by omega)] at hz); rw [w64 (by omega) (by omega)] at hz; subst hz)
        | (refine zv (fun z hz => ?_); (try rw [Int.tmod_eq_emod_of_nonneg (by omega)] at hz); subst hz)
        | (refine ifs (fun h => ?_) (fun h => ?_) <;> (try (exfalso; first | omega | with_reducible contradiction | with_reducible exact h rfl))))
    all_goals (conv => whnf)
    all_goals exact fin_g (A := orcM q) (.one takeG) ⟨q, hq1, hq2, rfl, rfl⟩
/-- The texts that are summed for a bare tree. -/
noncomputable def BareT (ts : List ByteArray) (h : Nat) : List ByteArray := if h = 0 then addT (addT (bareT ts 0) (p1 z64)) (p0 z64) else addT (bareT ts h) (p1 (bare h).1)
theorem bare_2 {h : Nat} (h0 : h ≠ 0) : D (p1 (bare h).1) = (bare h).2 := by
  obtain ⟨k, rfl⟩ : ∃ k, h = k + 1 := ⟨h - 1, by omega⟩
  rw [bare_s]
theorem BareT_len (ts : List ByteArray) (h : Nat) : (BareT ts h).length ≤ ts.length + h + 3 := by
  unfold BareT
  have h1 := bareT_len ts h
  split
  · rename_i h0
    subst h0
    have := addT_len (addT (bareT ts 0) (p1 z64)) (p0 z64)
    have := addT_len (bareT ts 0) (p1 z64)
    omega
  · have := addT_len (bareT ts h) (p1 (bare h).1)
    omega
set_option maxHeartbeats 2000000 in
theorem Bare_ (o : Orc) (ht : Nat) (hh : ht ≤ 6) (hb : o.ts.length ≤ 1099511627000) : Fnc Tryz.prog 202 [pt o.on, .int .i64 ht] (orcM o) (RetO o (BareT o.ts ht) orcM (.tuple #[.string (bare ht).1, .agg (dgV (bare ht).2).toArray, .int .i64 0])) := by
  have hbt := bareT_len o.ts ht
  by_cases h0 : ht = 0
  · subst h0
    rw [show BareT o.ts 0 = addT (addT (bareT o.ts 0) (p1 z64)) (p0 z64) by unfold BareT; rw [if_pos rfl]]
    have hbar := bare_ o 0 (by omega) hb
    rw [show (bare 0).1 = z64 by rw [bare_0]] at hbar ⊢
    rw [show (bare 0).2 = D (p0 z64) by rw [bare_0]]
    refine fn_intro Tryz.func202 (by kernel_rfl) ?_
    repeat' ((conv => whnf); first
        | refine nw_z (fun n => ?_)
        | (refine call_go hbar (.one takeG) (fun o1 a1 a2 => ?_); have e1 := node_ o1 z64 (by rw [a2]; omega); rw [nodeD_ok z64_size, sizeE_ok z64_size, a1, a2] at e1)
        | (refine call_go e1 (.one takeG) (fun o2 b1 b2 => ?_); have e2 := leaf_ o2 z64 (by rw [b2]; have := addT_len (bareT o.ts 0) (p1 z64); show (addT (bareT o.ts 0) (p1 z64)).length ≤ _; omega); rw [leafD_ok z64_size, sizeE_ok z64_size, b1, b2, a1] at e2)
        | (refine call_go e2 (.one takeG) (fun o3 c1 c2 => ?_))
        | refine draw_any 7 [(0, true), (2, true), (1, false), (3, false), (4, true)] [] rfl (by kernel_rfl) ?_
        | refine kept_nil ?_
        | refine force_of ?_
        | refine need (dgV_len _) ?_
        | refine st_dg ?_
        | refine ldN_dg rfl ?_
        | refine ld1_lit ?_
        | refine ldN_lit ?_
        | refine nw (fun n => ?_)
        | refine bld ?_
        | refine st_lit rfl ?_
        | refine need (by first | rfl | omega) ?_
        | (refine wr (fun z hz => ?_); (try rw [Int.tdiv_eq_ediv_of_nonneg (by omega)] at hz); rw [w64 (by omega) (by omega)] at hz; subst hz)
        | (refine zv (fun z hz => ?_); (try rw [Int.tmod_eq_emod_of_nonneg (by omega)] at hz); subst hz)
        | (refine ifs (fun h => ?_) (fun h => ?_) <;> (try (exfalso; first | omega | with_reducible contradiction | with_reducible exact h rfl))))
    all_goals (conv => whnf)
    all_goals exact fin_g (A := orcM o3) (.one takeG) ⟨o3, by rw [c1, b1, a1], by rw [c2], rfl, rfl⟩
  · rw [show BareT o.ts ht = addT (bareT o.ts ht) (p1 (bare ht).1) by unfold BareT; rw [if_neg h0]]
    have hbar := bare_ o ht hh hb
    have hsz := bare_size ht
    have h2 := bare_2 h0
    refine fn_intro Tryz.func202 (by kernel_rfl) ?_
    repeat' ((conv => whnf); first
        | refine nw_z (fun n => ?_)
        | (refine call_go hbar (.one takeG) (fun o1 a1 a2 => ?_); have e1 := node_ o1 (bare ht).1 (by rw [a2]; omega); rw [nodeD_ok hsz, sizeE_ok hsz, a1, a2] at e1)
        | (refine call_go e1 (.one takeG) (fun o2 b1 b2 => ?_))
        | refine draw_any 7 [(0, true), (2, true), (1, false), (3, false), (4, true)] [] rfl (by kernel_rfl) ?_
        | refine kept_nil ?_
        | refine force_of ?_
        | refine need (dgV_len _) ?_
        | refine st_dg ?_
        | refine ldN_dg rfl ?_
        | refine ld1_lit ?_
        | refine ldN_lit ?_
        | refine nw (fun n => ?_)
        | refine bld ?_
        | refine st_lit rfl ?_
        | refine need (by first | rfl | omega) ?_
        | (refine wr (fun z hz => ?_); (try rw [Int.tdiv_eq_ediv_of_nonneg (by omega)] at hz); rw [w64 (by omega) (by omega)] at hz; subst hz)
        | (refine zv (fun z hz => ?_); (try rw [Int.tmod_eq_emod_of_nonneg (by omega)] at hz); subst hz)
        | (refine ifs (fun h => ?_) (fun h => ?_) <;> (try (exfalso; first | omega | with_reducible contradiction | with_reducible exact h rfl))))
    all_goals (conv => whnf)
    all_goals exact fin_g (A := orcM o2) (.one takeG) ⟨o2, by rw [b1, a1], by rw [b2], rfl, by rw [h2]; rfl⟩
end Go.Proofs.YtohefdmfnllehaaGreat.Node
/- The contracts of package geom's plain functions, each over all its arguments. -/
namespace Go.Proofs.YtohefdmfnllehaaGreat.Geom
open Go Ev
set_option linter.unusedVariables false
set_option maxRecDepth 100000
set_option linter.unusedSimpArgs false

theorem within (a lo hi : Int) : Fnc Tryz.prog 233 [.int .i64 a, .int .i64 lo, .int .i64 hi] [] (Ret (.bool (decide (lo ≤ a ∧ a ≤ hi))) []) := by
  refine fn_intro Tryz.func233 (by kernel_rfl) ?_
  repeat' ((conv => whnf); first
      | refine ld1_lit ?_
      | refine ldN_lit ?_
      | refine nw (fun n => ?_)
      | refine bld ?_
      | refine st_lit rfl ?_
      | refine need (by first | rfl | omega) ?_
      | (refine wr (fun z hz => ?_); (try rw [Int.tdiv_eq_ediv_of_nonneg (by omega)] at hz); rw [w64 (by omega) (by omega)] at hz; subst hz)
      | (refine zv (fun z hz => ?_); (try rw [Int.tmod_eq_emod_of_nonneg (by omega)] at hz); subst hz)
      | (refine ifs (fun h => ?_) (fun h => ?_) <;> (try (exfalso; first | omega | with_reducible contradiction | with_reducible exact h rfl)))
      | refine fin_nil ⟨?_, rfl⟩)
  all_goals exact fin_bool (by simp; omega)

/-- May a geometry be? -/
def Right (b s m : Int) : Prop := 4 ≤ b ∧ b ≤ 64 ∧ b % 4 = 0 ∧ 1 ≤ s ∧ s ≤ 8 ∧ 1 ≤ m ∧ m ≤ 1099511627776
instance (b s m : Int) : Decidable (Right b s m) := by unfold Right; infer_instance

theorem check (b s m : Int) : Fnc Tryz.prog 197 [.agg #[.int .i64 b, .int .i64 s, .int .i64 m]] [] (Ret (.int .i64 (if Right b s m then 0 else 2)) []) := by
  refine fn_intro Tryz.func197 (by kernel_rfl) ?_
  repeat' ((conv => whnf); first
      | refine call_bool (within _ _ _) (fun h => ?_) (fun h => ?_)
      | refine ld1_lit ?_
      | refine ldN_lit ?_
      | refine nw (fun n => ?_)
      | refine bld ?_
      | refine st_lit rfl ?_
      | refine need (by first | rfl | omega) ?_
      | (refine wr (fun z hz => ?_); (try rw [Int.tdiv_eq_ediv_of_nonneg (by omega)] at hz); rw [w64 (by omega) (by omega)] at hz; subst hz)
      | (refine zv (fun z hz => ?_); (try rw [Int.tmod_eq_emod_of_nonneg (by omega)] at hz); subst hz)
      | (refine ifs (fun h => ?_) (fun h => ?_) <;> (try (exfalso; first | omega | with_reducible contradiction | with_reducible exact h rfl)))
      | refine fin_nil ⟨?_, rfl⟩)
  all_goals (refine fin_int ?_; unfold Right; omega)

theorem areaAt (a i : Int) : Fnc Tryz.prog 269 [.int .i64 a, .int .i64 i] []
    (Ret (if 0 ≤ a ∧ a ≤ 1 ∧ 0 ≤ i ∧ i < 80 then .tuple #[.int .i64 (1 + 80 * a + i), .int .i64 0] else .tuple #[.int .i64 0, .int .i64 3]) []) := by
  refine fn_intro Tryz.func269 (by kernel_rfl) ?_
  repeat' ((conv => whnf); first
      | refine ld1_lit ?_
      | refine ldN_lit ?_
      | refine nw (fun n => ?_)
      | refine bld ?_
      | refine st_lit rfl ?_
      | refine need (by first | rfl | omega) ?_
      | (refine wr (fun z hz => ?_); (try rw [Int.tdiv_eq_ediv_of_nonneg (by omega)] at hz); rw [w64 (by omega) (by omega)] at hz; subst hz)
      | (refine zv (fun z hz => ?_); (try rw [Int.tmod_eq_emod_of_nonneg (by omega)] at hz); subst hz)
      | (refine ifs (fun h => ?_) (fun h => ?_) <;> (try (exfalso; first | omega | with_reducible contradiction | with_reducible exact h rfl)))
      | refine fin_nil ⟨?_, rfl⟩)
  all_goals first | exact fin_t (by omega) rfl | exact fin_f (by omega) rfl
theorem nodeAt (n : Int) : Fnc Tryz.prog 227 [.int .i64 n] []
    (Ret (if 0 ≤ n ∧ n < 63 then .tuple #[.int .i64 (161 + n), .int .i64 0] else .tuple #[.int .i64 0, .int .i64 3]) []) := by
  refine fn_intro Tryz.func227 (by kernel_rfl) ?_
  repeat' ((conv => whnf); first
      | refine ld1_lit ?_
      | refine ldN_lit ?_
      | refine nw (fun n => ?_)
      | refine bld ?_
      | refine st_lit rfl ?_
      | refine need (by first | rfl | omega) ?_
      | (refine wr (fun z hz => ?_); (try rw [Int.tdiv_eq_ediv_of_nonneg (by omega)] at hz); rw [w64 (by omega) (by omega)] at hz; subst hz)
      | (refine zv (fun z hz => ?_); (try rw [Int.tmod_eq_emod_of_nonneg (by omega)] at hz); subst hz)
      | (refine ifs (fun h => ?_) (fun h => ?_) <;> (try (exfalso; first | omega | with_reducible contradiction | with_reducible exact h rfl)))
      | refine fin_nil ⟨?_, rfl⟩)
  all_goals first | exact fin_t (by omega) rfl | exact fin_f (by omega) rfl
theorem leafAt (n : Int) : Fnc Tryz.prog 170 [.int .i64 n] []
    (Ret (if 0 ≤ n ∧ n < 64 then .tuple #[.int .i64 (224 + n), .int .i64 0] else .tuple #[.int .i64 0, .int .i64 3]) []) := by
  refine fn_intro Tryz.func170 (by kernel_rfl) ?_
  repeat' ((conv => whnf); first
      | refine ld1_lit ?_
      | refine ldN_lit ?_
      | refine nw (fun n => ?_)
      | refine bld ?_
      | refine st_lit rfl ?_
      | refine need (by first | rfl | omega) ?_
      | (refine wr (fun z hz => ?_); (try rw [Int.tdiv_eq_ediv_of_nonneg (by omega)] at hz); rw [w64 (by omega) (by omega)] at hz; subst hz)
      | (refine zv (fun z hz => ?_); (try rw [Int.tmod_eq_emod_of_nonneg (by omega)] at hz); subst hz)
      | (refine ifs (fun h => ?_) (fun h => ?_) <;> (try (exfalso; first | omega | with_reducible contradiction | with_reducible exact h rfl)))
      | refine fin_nil ⟨?_, rfl⟩)
  all_goals first | exact fin_t (by omega) rfl | exact fin_f (by omega) rfl
/-- What a block is, which one, and whether it is one. -/
def whatK (b : Int) : Int := if 0 ≤ b ∧ b < 288 then (if b < 1 then 0 else if b < 161 then 1 + (b - 1) / 80 else if b < 224 then 3 else 4) else 0
def whatI (b : Int) : Int := if 0 ≤ b ∧ b < 288 then (if b < 1 then 0 else if b < 161 then (b - 1) % 80 else if b < 224 then b - 161 else b - 224) else 0
end Go.Proofs.YtohefdmfnllehaaGreat.Geom
/- Sheets and trees: the plain model, and the small calls. -/
namespace Go.Proofs.YtohefdmfnllehaaGreat.Tree
open Go Ev Sha Aes Orc Node
open Rig (RigP Rg rgM readR writeR z64)
set_option linter.unusedVariables false
set_option linter.unusedSimpArgs false
set_option maxRecDepth 100000
/-! Blocks by places. -/
def getS : List (Int × ByteArray) → Int → Option ByteArray
  | [], _ => none
  | (a, s) :: t, k => if k = a then some s else getS t k
def setS : List (Int × ByteArray) → Int → ByteArray → List (Int × ByteArray)
  | [], k, s => [(k, s)]
  | (a, u) :: t, k, s => if k = a then (a, s) :: t else (a, u) :: setS t k s
def vS (l : List (Int × ByteArray)) : List (Int × Value) := l.map fun p => (p.1, .string p.2)
theorem find_vS (k : Int) : ∀ (l : List (Int × ByteArray)) (i : Nat), (findIx k (vS l) i).map (·.2) = (getS l k).map fun s => Value.string s
  | [], i => rfl
  | (a, s) :: t, i => by
    have e : findIx k (vS ((a, s) :: t)) i = if k = a then some (i, .string s) else findIx k (vS t) (i + 1) := rfl
    have e2 : getS ((a, s) :: t) k = if k = a then some s else getS t k := rfl
    rw [e, e2]
    by_cases h : k = a
    · rw [if_pos h, if_pos h]; rfl
    · rw [if_neg h, if_neg h]; exact find_vS k t (i + 1)
theorem getM_vS (k : Int) (l : List (Int × ByteArray)) : getM (vS l) k = (getS l k).map fun s => Value.string s := find_vS k l 0
theorem setM_vS (k : Int) (s : ByteArray) : ∀ l : List (Int × ByteArray), setM (vS l) k (.string s) = vS (setS l k s)
  | [] => rfl
  | (a, u) :: t => by
    have e : setM (vS ((a, u) :: t)) k (.string s) = if k = a then (a, .string s) :: vS t else (a, .string u) :: setM (vS t) k (.string s) := rfl
    have e2 : setS ((a, u) :: t) k s = if k = a then (a, s) :: t else (a, u) :: setS t k s := rfl
    rw [e, e2]
    by_cases h : k = a
    · rw [if_pos h, if_pos h]; rfl
    · rw [if_neg h, if_neg h, setM_vS k s t]; rfl
theorem vS_len (l : List (Int × ByteArray)) : (vS l).length = l.length := by unfold vS; simp
/-! A sheet. -/
abbrev shB (sn mn : Nat) : Blk := ⟨sn, .cells [.map (some mn)] 287⟩
abbrev mpB (mn : Nat) (l : List (Int × ByteArray)) : Blk := ⟨mn, .obj (mapK kI (vS l))⟩
attribute [local irreducible] vS mapK Instr.lookup Instr.mapUpdate Instr.makeMap Builtin.len_
theorem snew : Fnc Tryz.prog 262 [] [] (fun e A => ∃ sn mn, e = .returned (pt sn) ∧ A = [shB sn mn, mpB mn []]) := by
  refine fn_intro Tryz.func262 (by kernel_rfl) ?_
  repeat' ((conv => whnf); first
      | refine map_make kI (fun r => ?_)
      | refine ld1_lit ?_
      | refine ldN_lit ?_
      | refine nw (fun n => ?_)
      | refine bld ?_
      | refine st_lit rfl ?_
      | refine need (by first | rfl | omega) ?_
      | (refine wr (fun z hz => ?_); (try rw [Int.tdiv_eq_ediv_of_nonneg (by omega)] at hz); rw [w64 (by omega) (by omega)] at hz; subst hz)
      | (refine zv (fun z hz => ?_); (try rw [Int.tmod_eq_emod_of_nonneg (by omega)] at hz); subst hz)
      | (refine ifs (fun h => ?_) (fun h => ?_) <;> (try (exfalso; first | omega | with_reducible contradiction | with_reducible exact h rfl))))
  all_goals (conv => whnf)
  exact fin_all ⟨_, _, rfl, by unfold mpB vS; rfl⟩
theorem sset (sn mn : Nat) (l : List (Int × ByteArray)) (k : Int) (s : ByteArray) : Fnc Tryz.prog 177 [pt sn, .int .i64 k, .string s] [shB sn mn, mpB mn l] (Ret (.bool true) [shB sn mn, mpB mn (setS l k s)]) := by
  refine fn_intro Tryz.func177 (by kernel_rfl) ?_
  repeat' ((conv => whnf); first
      | refine eq_map_nil rfl rfl rfl rfl ?_
      | (refine map_put (keyI rfl) rfl ?_; rw [setM_vS])
      | refine ld1_lit ?_
      | refine ldN_lit ?_
      | refine nw (fun n => ?_)
      | refine bld ?_
      | refine st_lit rfl ?_
      | refine need (by first | rfl | omega) ?_
      | (refine wr (fun z hz => ?_); (try rw [Int.tdiv_eq_ediv_of_nonneg (by omega)] at hz); rw [w64 (by omega) (by omega)] at hz; subst hz)
      | (refine zv (fun z hz => ?_); (try rw [Int.tmod_eq_emod_of_nonneg (by omega)] at hz); subst hz)
      | (refine ifs (fun h => ?_) (fun h => ?_) <;> (try (exfalso; first | omega | with_reducible contradiction | with_reducible exact h rfl))))
  all_goals (conv => whnf)
  all_goals exact fin_all ⟨rfl, rfl⟩
def getV (l : List (Int × ByteArray)) (k : Int) : ByteArray := (getS l k).getD ByteArray.empty
theorem sget (sn mn : Nat) (l : List (Int × ByteArray)) (k : Int) : Fnc Tryz.prog 171 [pt sn, .int .i64 k] [shB sn mn, mpB mn l] (Ret (.tuple #[.string (getV l k), .bool (getS l k).isSome]) [shB sn mn, mpB mn l]) := by
  have hg := getM_vS k l
  unfold getV
  cases h : getS l k with
  | none =>
    rw [h] at hg
    refine fn_intro Tryz.func171 (by kernel_rfl) ?_
    repeat' ((conv => whnf); first
        | (refine map_look (keyI rfl) rfl rfl rfl ?_; rw [hg])
        | refine ld1_lit ?_
        | refine ldN_lit ?_
        | refine nw (fun n => ?_)
        | refine bld ?_
        | refine st_lit rfl ?_
        | refine need (by first | rfl | omega) ?_
        | (refine wr (fun z hz => ?_); (try rw [Int.tdiv_eq_ediv_of_nonneg (by omega)] at hz); rw [w64 (by omega) (by omega)] at hz; subst hz)
        | (refine zv (fun z hz => ?_); (try rw [Int.tmod_eq_emod_of_nonneg (by omega)] at hz); subst hz)
        | (refine ifs (fun h => ?_) (fun h => ?_) <;> (try (exfalso; first | omega | with_reducible contradiction | with_reducible exact h rfl))))
    all_goals (conv => whnf)
    all_goals exact fin_all ⟨rfl, rfl⟩
  | some s =>
    rw [h] at hg
    refine fn_intro Tryz.func171 (by kernel_rfl) ?_
    repeat' ((conv => whnf); first
        | (refine map_look (keyI rfl) rfl rfl rfl ?_; rw [hg])
        | refine ld1_lit ?_
        | refine ldN_lit ?_
        | refine nw (fun n => ?_)
        | refine bld ?_
        | refine st_lit rfl ?_
        | refine need (by first | rfl | omega) ?_
        | (refine wr (fun z hz => ?_); (try rw [Int.tdiv_eq_ediv_of_nonneg (by omega)] at hz); rw [w64 (by omega) (by omega)] at hz; subst hz)
        | (refine zv (fun z hz => ?_); (try rw [Int.tmod_eq_emod_of_nonneg (by omega)] at hz); subst hz)
        | (refine ifs (fun h => ?_) (fun h => ?_) <;> (try (exfalso; first | omega | with_reducible contradiction | with_reducible exact h rfl))))
    all_goals (conv => whnf)
    all_goals exact fin_all ⟨rfl, rfl⟩
theorem slen (sn mn : Nat) (l : List (Int × ByteArray)) : Fnc Tryz.prog 160 [pt sn] [shB sn mn, mpB mn l] (Ret (.int .i64 l.length) [shB sn mn, mpB mn l]) := by
  refine fn_intro Tryz.func160 (by kernel_rfl) ?_
  repeat' ((conv => whnf); first
      | (refine map_len (K := Int) (e := kI) rfl ?_; rw [vS_len])
      | refine ld1_lit ?_
      | refine ldN_lit ?_
      | refine nw (fun n => ?_)
      | refine bld ?_
      | refine st_lit rfl ?_
      | refine need (by first | rfl | omega) ?_
      | (refine wr (fun z hz => ?_); (try rw [Int.tdiv_eq_ediv_of_nonneg (by omega)] at hz); rw [w64 (by omega) (by omega)] at hz; subst hz)
      | (refine zv (fun z hz => ?_); (try rw [Int.tmod_eq_emod_of_nonneg (by omega)] at hz); subst hz)
      | (refine ifs (fun h => ?_) (fun h => ?_) <;> (try (exfalso; first | omega | with_reducible contradiction | with_reducible exact h rfl))))
  all_goals (conv => whnf)
  all_goals exact fin_all ⟨rfl, rfl⟩
theorem sclear (sn mn : Nat) (l : List (Int × ByteArray)) : Fnc Tryz.prog 249 [pt sn] [shB sn mn, mpB mn l] (fun e A => ∃ mn', e = .returned (.tuple #[]) ∧ A = [shB sn mn', mpB mn' []]) := by
  refine fn_intro Tryz.func249 (by kernel_rfl) ?_
  repeat' ((conv => whnf); first
      | refine map_make kI (fun r => ?_)
      | refine ld1_lit ?_
      | refine ldN_lit ?_
      | refine nw (fun n => ?_)
      | refine bld ?_
      | refine st_lit rfl ?_
      | refine need (by first | rfl | omega) ?_
      | (refine wr (fun z hz => ?_); (try rw [Int.tdiv_eq_ediv_of_nonneg (by omega)] at hz); rw [w64 (by omega) (by omega)] at hz; subst hz)
      | (refine zv (fun z hz => ?_); (try rw [Int.tmod_eq_emod_of_nonneg (by omega)] at hz); subst hz)
      | (refine ifs (fun h => ?_) (fun h => ?_) <;> (try (exfalso; first | omega | with_reducible contradiction | with_reducible exact h rfl))))
  all_goals (conv => whnf)
  exact fin_pick (A' := [⟨sn, _⟩, ⟨r, _⟩]) (.cons takeC (.cons takeC .nil)) ⟨r, rfl, by unfold mpB vS; rfl⟩
end Go.Proofs.YtohefdmfnllehaaGreat.Tree
/- Trees: made, read, a node. -/
namespace Go.Proofs.YtohefdmfnllehaaGreat.Tree
open Go Ev Sha Aes Orc Node
open Rig (RigP Rg rgM readR writeR z64 app_of)
set_option linter.unusedVariables false
set_option linter.unusedSimpArgs false
set_option maxRecDepth 100000
/-- What a tree is. -/
structure TreP where
  d : Int
  root : Dg
  sheet : List (Int × ByteArray)
  known : List (Int × ByteArray)
structure TreA where
  rn : Nat
  on : Nat
  sn : Nat
  mn : Nat
  kn : Nat
structure Tre where
  a : TreA
  t : TreP
def treC (rn on : Nat) (d : Int) (root : Dg) (sn kn : Nat) : List Value := pt rn :: pt on :: .int .i64 d :: (dgV root ++ [pt sn, .map (some kn)])
abbrev tB (n : Nat) (a : TreA) (d : Int) (root : Dg) : Blk := ⟨n, .row (treC a.rn a.on d root a.sn a.kn) 248⟩
def treM (n : Nat) (x : Tre) : List Blk := [tB n x.a x.t.d x.t.root, shB x.a.sn x.a.mn, mpB x.a.mn x.t.sheet, mpB x.a.kn x.t.known]
theorem treC_len (rn on : Nat) (d : Int) (root : Dg) (sn kn : Nat) : (treC rn on d root sn kn).length = 37 := by unfold treC; simp [dgV_len]
theorem treC_0 {rn on : Nat} {d : Int} {root : Dg} {sn kn : Nat} : (treC rn on d root sn kn)[0]? = some (pt rn) := rfl
theorem treC_1 {rn on : Nat} {d : Int} {root : Dg} {sn kn : Nat} : (treC rn on d root sn kn)[0 + 1]? = some (pt on) := rfl
theorem treC_2 {rn on : Nat} {d : Int} {root : Dg} {sn kn : Nat} : (treC rn on d root sn kn)[0 + 2]? = some (.int .i64 d) := rfl
theorem treC_s {rn on : Nat} {d : Int} {root : Dg} {sn kn : Nat} : (treC rn on d root sn kn)[0 + 35]? = some (pt sn) := by
  show (pt rn :: pt on :: .int .i64 d :: (dgV root ++ [pt sn, .map (some kn)]))[32 + 3]? = _
  rw [List.getElem?_cons_succ, List.getElem?_cons_succ, List.getElem?_cons_succ, List.getElem?_append_right (by rw [dgV_len]; omega), dgV_len]; rfl
theorem treC_k {rn on : Nat} {d : Int} {root : Dg} {sn kn : Nat} : (treC rn on d root sn kn)[0 + 36]? = some (.map (some kn)) := by
  show (pt rn :: pt on :: .int .i64 d :: (dgV root ++ [pt sn, .map (some kn)]))[33 + 3]? = _
  rw [List.getElem?_cons_succ, List.getElem?_cons_succ, List.getElem?_cons_succ, List.getElem?_append_right (by rw [dgV_len]; omega), dgV_len]; rfl
theorem treC_r (rn on : Nat) (d : Int) (root : Dg) (sn kn : Nat) : ((treC rn on d root sn kn).drop (0 + 3)).take (dgV root).length = dgV root := by
  show ((dgV root ++ [pt sn, .map (some kn)])).take (dgV root).length = dgV root
  rw [List.take_left']; rfl
theorem splice1 {X B : List Value} {n : Nat} {u a : Value} (hX : X.length = n) : (X ++ (u :: B)).take n ++ [a] ++ (X ++ (u :: B)).drop (n + 1) = X ++ (a :: B) := by
  rw [List.take_left' hX, show n + 1 = X.length + 1 by omega, ← List.drop_drop, List.drop_left]; simp
theorem splice2 {X B : List Value} {n : Nat} {u v a : Value} (hX : X.length = n) : (X ++ (v :: u :: B)).take (n + 1) ++ [a] ++ (X ++ (v :: u :: B)).drop (n + 2) = X ++ (v :: a :: B) := by
  have h := splice1 (X := X ++ [v]) (B := B) (n := n + 1) (u := u) (a := a) (by simp [hX])
  simpa using h
theorem kDg : kindsOf Tryz.prog 3 57 = some (List.replicate 32 (.int .u8)) := by kernel_rfl
theorem fits_rep {k : Kd} : ∀ {l : List Value}, (∀ v ∈ l, k.ok v) → Fits (List.replicate l.length k) l
  | [], _ => trivial
  | v :: l, h => ⟨h v List.mem_cons_self, fits_rep fun u hu => h u (List.mem_cons_of_mem _ hu)⟩
theorem fDg (a : Dg) : Fits (List.replicate 32 (.int .u8)) (dgV a) := by
  have h : Fits (List.replicate (dgV a).length (.int .u8)) (dgV a) := fits_rep fun v hv => by
    unfold dgV at hv; obtain ⟨j, _, rfl⟩ := List.mem_map.1 hv; exact ⟨_, rfl⟩
  rwa [dgV_len] at h
theorem fldN_dg {RO : List Blk} {n : Nat} {t : TypeId} {a : Dg} {m : Nat} {K : List Value → Prop} [h : Look RO n (.row (dgV a) t)] (hm : 32 = m) (hk : K (dgV a)) : FLdN RO n 0 m K :=
  ⟨⟨dgV a, by rw [dgV_len, hm], fun w hw => row_at (hw.1 _ h.mem) (dgV_all a), hk⟩⟩
section
variable {M : List Blk} {n : Nat} {a : TreA} {d : Int} {root : Dg} {T : TypeId} {rn on sn kn : Nat}
theorem ldN_root {K : List Value → Prop} [h : Look M n (.row (treC rn on d root sn kn) T)] (hk : K (dgV root)) : LdN M n (0 + 3) 32 K := ldN_row (dgV root) (treC_r _ _ _ _ _ _) (dgV_len _) hk
theorem st_root {P : Program} {b : Dg} {f : Blk → List Blk} {K : List Blk → Prop} [z : Zip M n (.row (treC rn on d root sn kn) T) f] (hk : K (f ⟨n, .row (treC rn on d b sn kn) T⟩)) : StN P M n (0 + 3) (dgV b) K :=
  st_rowN (dgV_one b) (by rw [treC_len, dgV_len]; omega) (by
    have : (treC rn on d root sn kn).take (0 + 3) ++ dgV b ++ (treC rn on d root sn kn).drop (0 + 3 + (dgV b).length) = treC rn on d b sn kn := by
      rw [dgV_len]
      show ([pt rn, pt on, .int .i64 d] ++ dgV b) ++ ((dgV root ++ [pt sn, .map (some kn)]).drop 32) = _
      rw [List.drop_left' (dgV_len root)]; rfl
    rw [this]; exact hk)
end
attribute [local irreducible] dgV D vS mapK Instr.lookup Instr.mapUpdate Instr.makeMap Builtin.len_ treC
set_option maxHeartbeats 2000000 in
theorem tnew (rn on : Nat) (d : Int) (root : Dg) (hd : d = 0 ∨ d = 1) : Fnc Tryz.prog 232 [pt rn, pt on, .int .i64 d, .agg (dgV root).toArray] [] (fun e A => ∃ n a, a.rn = rn ∧ a.on = on ∧ e = .returned (.tuple #[pt n, .int .i64 0]) ∧ A = treM n ⟨a, ⟨d, root, [], []⟩⟩) := by
  have ht : ∀ (sn kn : Nat), pt rn :: pt on :: .int .i64 d :: (dgV root ++ [pt sn, .map (some kn)]) = treC rn on d root sn kn := fun sn kn => by unfold treC; rfl
  rcases hd with rfl | rfl
  all_goals
    refine fn_intro Tryz.func232 (by kernel_rfl) ?_
    repeat' ((conv => whnf); first
        | refine force_of ?_
        | refine nw_dg (fun n => ?_)
        | refine ld1_lit ?_
        | refine ldN_lit ?_
        | refine nw (fun n => ?_)
        | refine bld ?_
        | refine st_lit rfl ?_
        | refine need (by first | rfl | omega) ?_
        | (refine wr (fun z hz => ?_); (try rw [Int.tdiv_eq_ediv_of_nonneg (by omega)] at hz); rw [w64 (by omega) (by omega)] at hz; subst hz)
        | (refine zv (fun z hz => ?_); (try rw [Int.tmod_eq_emod_of_nonneg (by omega)] at hz); subst hz)
        | (refine ifs (fun h => ?_) (fun h => ?_) <;> (try (exfalso; first | omega | with_reducible contradiction | with_reducible exact h rfl))))
    revert n; intro bn
    refine draw_tree 5 (.take 0 (.take 1 (.take 2 (.take 3 (.two 4 5 (.only 5 (.take 6 (.only 7 (.take 8 (.take 9 .nil))))) (.only 4 (.take 6 (.only 7 (.take 8 (.take 9 .nil)))))))))) [⟨bn, _⟩] rfl (by kernel_rfl) (kept1 ?_)
    repeat' ((conv => whnf); first
        | refine And.intro ?_ ?_
        | refine kept1 (n := bn) ?_
        | refine fldN_dg (n := bn) rfl ?_
        | (refine call_g snew .nil (fun e A' hq => ?_); obtain ⟨sn, mn, h1, h2⟩ := hq; subst h1; subst h2)
        | refine map_make kI (fun kn => ?_)
        | (refine bld_cons (vs := [_]) rfl rfl rfl (Nat.le_of_ble_eq_true rfl) rfl ?_; refine bld_cons (vs := [_]) rfl rfl rfl (Nat.le_of_ble_eq_true rfl) rfl ?_; refine bld_cons (vs := [_]) rfl rfl rfl (Nat.le_of_ble_eq_true rfl) rfl ?_; refine bld_cons (vs := dgV root) (cs1 := pt rn :: pt on :: .int .i64 _ :: (dgV root ++ [.pointer none, .map none])) rfl rfl (dgV_len _) (Nat.le_of_ble_eq_true rfl) rfl ?_; refine bld_cons (vs := [_]) rfl rfl rfl (by simp [dgV_len]; exact Nat.le_of_ble_eq_true rfl) (splice1 (X := pt rn :: pt on :: .int .i64 _ :: dgV root) (n := 35) (by simp [dgV_len])) ?_; refine bld_cons (vs := [_]) rfl rfl rfl (by simp [dgV_len]; exact Nat.le_of_ble_eq_true rfl) (splice2 (X := pt rn :: pt on :: .int .i64 _ :: dgV root) (n := 35) (by simp [dgV_len])) ?_; refine bld_nil ?_)
        | refine nw_row (ht sn kn).symm (fun n => ?_)
        | refine force_of ?_
        | refine ld1_lit ?_
        | refine ldN_lit ?_
        | refine nw (fun n => ?_)
        | refine bld ?_
        | refine st_lit rfl ?_
        | refine need (by first | rfl | omega) ?_
        | (refine wr (fun z hz => ?_); (try rw [Int.tdiv_eq_ediv_of_nonneg (by omega)] at hz); rw [w64 (by omega) (by omega)] at hz; subst hz)
        | (refine zv (fun z hz => ?_); (try rw [Int.tmod_eq_emod_of_nonneg (by omega)] at hz); subst hz)
        | (refine ifs (fun h => ?_) (fun h => ?_) <;> (try (exfalso; first | omega | with_reducible contradiction | with_reducible exact h rfl))))
    all_goals (conv => whnf)
    all_goals exact fin_pick (A' := [⟨n, _⟩, ⟨sn, _⟩, ⟨mn, _⟩, ⟨kn, _⟩]) (.cons takeC (.cons takeC (.cons takeC (.cons takeC .nil)))) ⟨n, ⟨rn, on, sn, mn, kn⟩, rfl, rfl, rfl, by unfold treM mpB vS; rfl⟩
end Go.Proofs.YtohefdmfnllehaaGreat.Tree
