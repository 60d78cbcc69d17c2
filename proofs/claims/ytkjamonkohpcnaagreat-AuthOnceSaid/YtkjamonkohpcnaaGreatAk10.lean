/- Texts of this proof, merged. -/
import Derived.Test.YtkjamonkohpcnaaGreatAk9
import Derived.Test.YtkjamonkohpcnaaGreatAk8
import Derived.Test.YtkjamonkohpcnaaGreatProg
import Derived.Test.YtkjamonkohpcnaaGreatAk3
import Derived.KernelRfl
set_option linter.unusedVariables false
set_option linter.unusedSimpArgs false
set_option linter.unusedSectionVars false
set_option maxRecDepth 100000
set_option maxHeartbeats 16000000
namespace Go.Proofs.YtkjamonkohpcnaaGreat
namespace Node
open Go Ev Sha Aes Orc
open Rig (z64)
def dep (n : Nat) : Nat := if n = 0 then 0 else if n ≤ 2 then 1 else if n ≤ 6 then 2 else if n ≤ 14 then 3 else if n ≤ 30 then 4 else 5
theorem dep_le (n : Nat) : dep n ≤ 5 := by unfold dep; (repeat' split) <;> omega
theorem dep_up {n : Nat} (h : 0 < n) (hn : n < 63) : dep ((n - 1) / 2) + 1 = dep n := by unfold dep; (repeat' split) <;> omega
theorem dep_0 {n : Nat} (h : ¬ 0 < n) : dep n = 0 := by unfold dep; rw [if_pos (by omega)]
def high (n : Nat) : Nat := 6 - dep n
attribute [local irreducible] dep
theorem high_ (n : Nat) (hn : n < 63) : Fnc Tryz.prog 203 [.int .i64 n] [] (Ret (.tuple #[.int .i64 (high n : Nat), .int .i64 0]) []) := by
 have h5 := dep_le n
 refine fn_intro Tryz.func203 (by kernel_rfl) ?_
 repeat' ((conv => whnf); first
  | (refine ifs (fun h => ?_) (fun h => ?_) <;> try (exfalso; first | omega | with_reducible first | contradiction | exact h rfl)))
 all_goals (conv => whnf)
 refine loop_rule [0, 4] (fun vs M m => ∃ (k q : Nat), vs = [.int .i64 q, .int .i64 ((6 - k : Nat) : Int)] ∧ q < 63 ∧ dep q + k = dep n ∧ m = dep q ∧ M = []) rfl ?_ ?_
 · exact fin_all ⟨_, 0, n, rfl, hn, rfl, rfl, rfl⟩
 rintro vs junk M' m ⟨k, q, rfl, hq, hd, rfl, rfl⟩
 by_cases h0 : 0 < q
 · have hu := dep_up h0 hq
   have e1 : ((q : Int) - 1) / 2 = (((q - 1) / 2 : Nat) : Int) := by omega
   have e2 : (((6 - k : Nat) : Int) - 1) = ((6 - (k + 1) : Nat) : Int) := by omega
   repeat' ((conv => whnf); first
    | (refine wr (fun z hz => ?_); (first | rw [Int.tdiv_eq_ediv_of_nonneg (by omega), e1, w64 (by omega) (by omega)] at hz | rw [e2, w64 (by omega) (by omega)] at hz | rw [w64 (by omega) (by omega)] at hz); subst hz) | refine need (by first | rfl | omega) ?_ | (refine ifs (fun h => ?_) (fun h => ?_) <;> try (exfalso; first | omega | with_reducible first | contradiction | exact h rfl)))
   all_goals (conv => whnf)
   exact ⟨rfl, fin_all ⟨dep ((q - 1) / 2), by omega, k + 1, (q - 1) / 2, rfl, by omega, by omega, rfl, rfl⟩⟩
 · have hz := dep_0 h0
   repeat' ((conv => whnf); first
    | (refine ifs (fun h => ?_) (fun h => ?_) <;> try (exfalso; first | omega | with_reducible first | contradiction | exact h rfl)))
   all_goals (conv => whnf)
   exact fin_nil ⟨by unfold high; rw [show dep n = k by omega]; rfl, rfl⟩
def dup (d : Dg) : ByteArray := str (dl d) ++ str (dl d)
theorem dup_size (d : Dg) : (dup d).size = 64 := by unfold dup; rw [ByteArray.size_append, Ev.str_size, dl_len]
noncomputable def bare : Nat → ByteArray × Dg
 | 0 => (z64, D (p0 z64))
 | k + 1 => (dup (bare k).2, D (p1 (dup (bare k).2)))
theorem z64_size : z64.size = 64 := by unfold z64; rw [Ev.str_size]; rfl
theorem bare_size : ∀ k, (bare k).1.size = 64
 | 0 => z64_size
 | k + 1 => dup_size _
noncomputable def bareT (ts : List ByteArray) : Nat → List ByteArray
 | 0 => addT ts (p0 z64)
 | k + 1 => addT (bareT ts k) (p1 (bare (k + 1)).1)
theorem addT_len (ts : List ByteArray) (s : ByteArray) : (addT ts s).length ≤ ts.length + 1 := by
 unfold addT; split
 · omega
 · simp
theorem bareT_len (ts : List ByteArray) : ∀ k, (bareT ts k).length ≤ ts.length + k + 1
 | 0 => addT_len _ _
 | k + 1 => by
   have := addT_len (bareT ts k) (p1 (bare (k + 1)).1)
   have ih := bareT_len ts k
   show (addT (bareT ts k) (p1 (bare (k + 1)).1)).length ≤ _
   omega
theorem bare_0 : bare 0 = (z64, D (p0 z64)) := rfl
theorem bare_s (k : Nat) : bare (k + 1) = (dup (bare k).2, D (p1 (dup (bare k).2))) := rfl
theorem bareT_0 (ts : List ByteArray) : bareT ts 0 = addT ts (p0 z64) := rfl
theorem bareT_s (ts : List ByteArray) (k : Nat) : bareT ts (k + 1) = addT (bareT ts k) (p1 (bare (k + 1)).1) := rfl
theorem leafD_ok {ts : List ByteArray} {s : ByteArray} (h : s.size = 64) : leafD ts s = (addT ts (p0 s), D (p0 s)) := by unfold leafD; rw [if_pos h]
theorem nodeD_ok {ts : List ByteArray} {s : ByteArray} (h : s.size = 64) : nodeD ts s = (addT ts (p1 s), D (p1 s)) := by unfold nodeD; rw [if_pos h]
theorem sizeE_ok {s : ByteArray} (h : s.size = 64) : sizeE s = 0 := by unfold sizeE; rw [if_pos h]
attribute [local irreducible] dgV D convert Builtin.copy_ Builtin.append_ Instr.makeSlice bare bareT z64 dup addT p0 p1
theorem bare_ (o : Orc) (ht : Nat) (hh : ht ≤ 6) (hb : o.ts.length ≤ 1099511627000) : Fnc Tryz.prog 205 [pt o.on, .int .i64 ht] (orcM o) (RetO o (bareT o.ts ht) orcM (.string (bare ht).1)) := by
 have hz : str (List.replicate 64 0) = z64 := by unfold z64; rfl
 have zs := z64_size
 have hl := leaf_ o z64 (by omega)
 rw [leafD_ok zs, sizeE_ok zs] at hl
 refine fn_intro Tryz.func205 (by kernel_rfl) ?_
 repeat' ((conv => whnf); first
  | refine mk_row rfl rfl rfl rfl rfl (by decide) (by decide) (by decide) (fun n => ?_) | (refine b2s_row (t := 5) (l := List.replicate 64 0) (junk := []) (by simp [u8s]) rfl rfl rfl (by simp) ?_; rw [hz]) | (refine call_go hl (.one takeG) (fun o' h1 h2 => ?_)) | refine nw_z (fun n => ?_) | refine force_of ?_ | refine need (dgV_len _) ?_ | refine st_dg ?_)
 all_goals (conv => whnf)
 revert n; intro dn
 revert n; intro zn
 refine loop_rule [5, 17] (fun vs M m => ∃ (k : Nat) (q : Orc), vs = [.string (bare k).1, .int .i64 k] ∧ k ≤ ht ∧ q.on = o.on ∧ q.ts = bareT o.ts k ∧ m = ht - k ∧ M = ⟨dn, .row (dgV (bare k).2) 30⟩ :: orcM q) rfl ?_ ?_
 · exact fin_g (A := ⟨dn, _⟩ :: orcM o') (.blk takeC (.one takeG)) ⟨_, 0, o', by rw [bare_0]; rfl, by omega, h1, by rw [h2, bareT_0], rfl, by rw [bare_0]⟩
 rintro vs junk M' m ⟨k, q, rfl, hk, hq1, hq2, rfl, rfl⟩
 have hbt := bareT_len o.ts k
 by_cases hk6 : k < ht
 · have hn := node_ q (dup (bare k).2) (by rw [hq2]; omega)
   rw [nodeD_ok (dup_size _), sizeE_ok (dup_size _), hq1] at hn
   have hd : str (dl (bare k).2) ++ str (dl (bare k).2) = dup (bare k).2 := by unfold dup; rfl
   have hds := dup_size (bare k).2
   repeat' ((conv => whnf); first
    | refine draw_tree 5 (.take 0 (.take 2 (.two 1 3 (.only 3 (.take 4 (.take 5 .nil))) (.only 1 (.take 4 (.take 5 .nil)))))) [] rfl (by kernel_rfl) ?_ | refine And.intro ?_ ?_ | refine kept_nil ?_ | refine nv_eq (a := 0) rfl ?_ | refine nv_eq (a := 32) rfl ?_ | refine b2s_row (n := dn) (l := dl (bare k).2) (junk := []) (dg_u8 _) rfl rfl rfl (by rw [dl_len]) ?_ | refine need (by rw [show IntKind.i64.max = 9223372036854775807 from rfl, Ev.str_size, dl_len]; omega) ?_ | (refine sv_eq (a := dup (bare k).2) hd ?_) | (refine call_go hn (.one takeG) (fun o2 g1 g2 => ?_)) | refine force_of ?_ | refine need (dgV_len _) ?_ | refine st_dg (n := dn) ?_ | refine need (by first | rfl | omega) ?_ | (refine wr (fun z hz => ?_); (try rw [Int.tdiv_eq_ediv_of_nonneg (by omega)] at hz); rw [w64 (by omega) (by omega)] at hz; subst hz) | (refine ifs (fun h => ?_) (fun h => ?_) <;> try (exfalso; first | omega | with_reducible first | contradiction | exact h rfl)))
   all_goals (conv => whnf)
   all_goals first
    | rfl
    | exact fin_g (A := ⟨dn, _⟩ :: orcM o2) (.blk takeC (.one takeG)) ⟨ht - (k + 1), by omega, k + 1, o2, by rw [bare_s]; rfl, by omega, by rw [g1, hq1], by rw [g2, bareT_s, bare_s, hq2], rfl, by rw [bare_s]⟩
 · obtain rfl : k = ht := by omega
   repeat' ((conv => whnf); first
    | (refine ifs (fun h => ?_) (fun h => ?_) <;> try (exfalso; first | omega | with_reducible first | contradiction | exact h rfl)))
   all_goals (conv => whnf)
   all_goals exact fin_g (A := orcM q) (.one takeG) ⟨q, hq1, hq2, rfl, rfl⟩
noncomputable def BareT (ts : List ByteArray) (h : Nat) : List ByteArray := if h = 0 then addT (addT (bareT ts 0) (p1 z64)) (p0 z64) else addT (bareT ts h) (p1 (bare h).1)
theorem bare_2 {h : Nat} (h0 : h ≠ 0) : D (p1 (bare h).1) = (bare h).2 := by
 obtain ⟨k, rfl⟩ : ∃ k, h = k + 1 := ⟨h - 1, by omega⟩
 rw [bare_s]
theorem BareT_len (ts : List ByteArray) (h : Nat) : (BareT ts h).length ≤ ts.length + h + 3 := by
 unfold BareT
 have h1 := bareT_len ts h
 split
 · rename_i h0
   subst h0
   have := addT_len (addT (bareT ts 0) (p1 z64)) (p0 z64)
   have := addT_len (bareT ts 0) (p1 z64)
   omega
 · have := addT_len (bareT ts h) (p1 (bare h).1)
   omega
theorem Bare_ (o : Orc) (ht : Nat) (hh : ht ≤ 6) (hb : o.ts.length ≤ 1099511627000) : Fnc Tryz.prog 160 [pt o.on, .int .i64 ht] (orcM o) (RetO o (BareT o.ts ht) orcM (.tuple #[.string (bare ht).1, .agg (dgV (bare ht).2).toArray, .int .i64 0])) := by
 have hbt := bareT_len o.ts ht
 by_cases h0 : ht = 0
 · subst h0
   rw [show BareT o.ts 0 = addT (addT (bareT o.ts 0) (p1 z64)) (p0 z64) by unfold BareT; rw [if_pos rfl]]
   have hbar := bare_ o 0 (by omega) hb
   rw [show (bare 0).1 = z64 by rw [bare_0]] at hbar ⊢
   rw [show (bare 0).2 = D (p0 z64) by rw [bare_0]]
   refine fn_intro Tryz.func160 (by kernel_rfl) ?_
   repeat' ((conv => whnf); first
    | refine nw_z (fun n => ?_) | (refine call_go hbar (.one takeG) (fun o1 a1 a2 => ?_); have e1 := node_ o1 z64 (by rw [a2]; omega); rw [nodeD_ok z64_size, sizeE_ok z64_size, a1, a2] at e1) | (refine call_go e1 (.one takeG) (fun o2 b1 b2 => ?_); have e2 := leaf_ o2 z64 (by rw [b2]; have := addT_len (bareT o.ts 0) (p1 z64); show (addT (bareT o.ts 0) (p1 z64)).length ≤ _; omega); rw [leafD_ok z64_size, sizeE_ok z64_size, b1, b2, a1] at e2) | (refine call_go e2 (.one takeG) (fun o3 c1 c2 => ?_)) | refine draw_any 7 [(0, true), (2, true), (1, false), (3, false), (4, true)] [] rfl (by kernel_rfl) ?_ | refine kept_nil ?_ | refine force_of ?_ | refine need (dgV_len _) ?_ | refine st_dg ?_ | refine ldN_dg rfl ?_ | (refine ifs (fun h => ?_) (fun h => ?_) <;> try (exfalso; first | omega | with_reducible first | contradiction | exact h rfl)))
   all_goals (conv => whnf)
   all_goals exact fin_g (A := orcM o3) (.one takeG) ⟨o3, by rw [c1, b1, a1], by rw [c2], rfl, rfl⟩
 · rw [show BareT o.ts ht = addT (bareT o.ts ht) (p1 (bare ht).1) by unfold BareT; rw [if_neg h0]]
   have hbar := bare_ o ht hh hb
   have hsz := bare_size ht
   have h2 := bare_2 h0
   refine fn_intro Tryz.func160 (by kernel_rfl) ?_
   repeat' ((conv => whnf); first
    | refine nw_z (fun n => ?_) | (refine call_go hbar (.one takeG) (fun o1 a1 a2 => ?_); have e1 := node_ o1 (bare ht).1 (by rw [a2]; omega); rw [nodeD_ok hsz, sizeE_ok hsz, a1, a2] at e1) | (refine call_go e1 (.one takeG) (fun o2 b1 b2 => ?_)) | refine draw_any 7 [(0, true), (2, true), (1, false), (3, false), (4, true)] [] rfl (by kernel_rfl) ?_ | refine kept_nil ?_ | refine force_of ?_ | refine need (dgV_len _) ?_ | refine st_dg ?_ | refine ldN_dg rfl ?_ | (refine ifs (fun h => ?_) (fun h => ?_) <;> try (exfalso; first | omega | with_reducible first | contradiction | exact h rfl)))
   all_goals (conv => whnf)
   all_goals exact fin_g (A := orcM o2) (.one takeG) ⟨o2, by rw [b1, a1], by rw [b2], rfl, by rw [h2]; rfl⟩
end Node
namespace Geom
open Go Ev
theorem within (a lo hi : Int) : Fnc Tryz.prog 199 [.int .i64 a, .int .i64 lo, .int .i64 hi] [] (Ret (.bool (decide (lo ≤ a ∧ a ≤ hi))) []) := by
 refine fn_intro Tryz.func199 (by kernel_rfl) ?_
 repeat' ((conv => whnf); first
  | (refine ifs (fun h => ?_) (fun h => ?_) <;> try (exfalso; first | omega | with_reducible first | contradiction | exact h rfl)) | refine fin_nil ⟨?_, rfl⟩)
 all_goals exact fin_bool (by simp; omega)
def Right (b s m : Int) : Prop := 4 ≤ b ∧ b ≤ 64 ∧ b % 4 = 0 ∧ 1 ≤ s ∧ s ≤ 8 ∧ 1 ≤ m ∧ m ≤ 1099511627776
instance (b s m : Int) : Decidable (Right b s m) := by unfold Right; infer_instance
theorem check (b s m : Int) : Fnc Tryz.prog 153 [.agg #[.int .i64 b, .int .i64 s, .int .i64 m]] [] (Ret (.int .i64 (if Right b s m then 0 else 2)) []) := by
 refine fn_intro Tryz.func153 (by kernel_rfl) ?_
 repeat' ((conv => whnf); first
  | refine call_bool (within _ _ _) (fun h => ?_) (fun h => ?_) | refine ld1_lit ?_ | refine nw (fun n => ?_) | refine need (by first | rfl | omega) ?_ | (refine zv (fun z hz => ?_); (try rw [Int.tmod_eq_emod_of_nonneg (by omega)] at hz); subst hz) | (refine ifs (fun h => ?_) (fun h => ?_) <;> try (exfalso; first | omega | with_reducible first | contradiction | exact h rfl)) | refine fin_nil ⟨?_, rfl⟩)
 all_goals (refine fin_int ?_; unfold Right; omega)
theorem areaAt (a i : Int) : Fnc Tryz.prog 245 [.int .i64 a, .int .i64 i] []
 (Ret (if 0 ≤ a ∧ a ≤ 1 ∧ 0 ≤ i ∧ i < 80 then .tuple #[.int .i64 (1 + 80 * a + i), .int .i64 0] else .tuple #[.int .i64 0, .int .i64 3]) []) := by
 refine fn_intro Tryz.func245 (by kernel_rfl) ?_
 repeat' ((conv => whnf); first
  | (refine wr (fun z hz => ?_); (try rw [Int.tdiv_eq_ediv_of_nonneg (by omega)] at hz); rw [w64 (by omega) (by omega)] at hz; subst hz) | (refine ifs (fun h => ?_) (fun h => ?_) <;> try (exfalso; first | omega | with_reducible first | contradiction | exact h rfl)) | refine fin_nil ⟨?_, rfl⟩)
 all_goals first | exact fin_t (by omega) rfl | exact fin_f (by omega) rfl
theorem nodeAt (n : Int) : Fnc Tryz.prog 204 [.int .i64 n] []
 (Ret (if 0 ≤ n ∧ n < 63 then .tuple #[.int .i64 (161 + n), .int .i64 0] else .tuple #[.int .i64 0, .int .i64 3]) []) := by
 refine fn_intro Tryz.func204 (by kernel_rfl) ?_
 repeat' ((conv => whnf); first
  | (refine wr (fun z hz => ?_); (try rw [Int.tdiv_eq_ediv_of_nonneg (by omega)] at hz); rw [w64 (by omega) (by omega)] at hz; subst hz) | (refine ifs (fun h => ?_) (fun h => ?_) <;> try (exfalso; first | omega | with_reducible first | contradiction | exact h rfl)) | refine fin_nil ⟨?_, rfl⟩)
 all_goals first | exact fin_t (by omega) rfl | exact fin_f (by omega) rfl
theorem leafAt (n : Int) : Fnc Tryz.prog 165 [.int .i64 n] []
 (Ret (if 0 ≤ n ∧ n < 64 then .tuple #[.int .i64 (224 + n), .int .i64 0] else .tuple #[.int .i64 0, .int .i64 3]) []) := by
 refine fn_intro Tryz.func165 (by kernel_rfl) ?_
 repeat' ((conv => whnf); first
  | (refine wr (fun z hz => ?_); (try rw [Int.tdiv_eq_ediv_of_nonneg (by omega)] at hz); rw [w64 (by omega) (by omega)] at hz; subst hz) | (refine ifs (fun h => ?_) (fun h => ?_) <;> try (exfalso; first | omega | with_reducible first | contradiction | exact h rfl)) | refine fin_nil ⟨?_, rfl⟩)
 all_goals first | exact fin_t (by omega) rfl | exact fin_f (by omega) rfl
end Geom
namespace Tree
open Go Ev Sha Aes Orc Node
open Rig (RigP Rg rgM readR writeR z64)
def getS : List (Int × ByteArray) → Int → Option ByteArray
 | [], _ => none
 | (a, s) :: t, k => if k = a then some s else getS t k
def setS : List (Int × ByteArray) → Int → ByteArray → List (Int × ByteArray)
 | [], k, s => [(k, s)]
 | (a, u) :: t, k, s => if k = a then (a, s) :: t else (a, u) :: setS t k s
def vS (l : List (Int × ByteArray)) : List (Int × Value) := l.map fun p => (p.1, .string p.2)
theorem find_vS (k : Int) : ∀ (l : List (Int × ByteArray)) (i : Nat), (findIx k (vS l) i).map (·.2) = (getS l k).map fun s => Value.string s
 | [], i => rfl
 | (a, s) :: t, i => by
   have e : findIx k (vS ((a, s) :: t)) i = if k = a then some (i, .string s) else findIx k (vS t) (i + 1) := rfl
   have e2 : getS ((a, s) :: t) k = if k = a then some s else getS t k := rfl
   rw [e, e2]
   by_cases h : k = a
   · rw [if_pos h, if_pos h]; rfl
   · rw [if_neg h, if_neg h]; exact find_vS k t (i + 1)
theorem getM_vS (k : Int) (l : List (Int × ByteArray)) : getM (vS l) k = (getS l k).map fun s => Value.string s := find_vS k l 0
theorem setM_vS (k : Int) (s : ByteArray) : ∀ l : List (Int × ByteArray), setM (vS l) k (.string s) = vS (setS l k s)
 | [] => rfl
 | (a, u) :: t => by
   have e : setM (vS ((a, u) :: t)) k (.string s) = if k = a then (a, .string s) :: vS t else (a, .string u) :: setM (vS t) k (.string s) := rfl
   have e2 : setS ((a, u) :: t) k s = if k = a then (a, s) :: t else (a, u) :: setS t k s := rfl
   rw [e, e2]
   by_cases h : k = a
   · rw [if_pos h, if_pos h]; rfl
   · rw [if_neg h, if_neg h, setM_vS k s t]; rfl
theorem vS_len (l : List (Int × ByteArray)) : (vS l).length = l.length := by unfold vS; simp
abbrev shB (sn mn : Nat) : Blk := ⟨sn, .cells [.map (some mn)] 254⟩
abbrev mpB (mn : Nat) (l : List (Int × ByteArray)) : Blk := ⟨mn, .obj (mapK kI (vS l))⟩
attribute [local irreducible] vS mapK Instr.lookup Instr.mapUpdate Instr.makeMap Builtin.len_
theorem snew : Fnc Tryz.prog 238 [] [] (fun e A => ∃ sn mn, e = .returned (pt sn) ∧ A = [shB sn mn, mpB mn []]) := by
 refine fn_intro Tryz.func238 (by kernel_rfl) ?_
 repeat' ((conv => whnf); first
  | refine map_make kI (fun r => ?_) | refine nw (fun n => ?_) | refine bld ?_)
 all_goals (conv => whnf)
 exact fin_all ⟨_, _, rfl, by unfold mpB vS; rfl⟩
theorem sset (sn mn : Nat) (l : List (Int × ByteArray)) (k : Int) (s : ByteArray) : Fnc Tryz.prog 169 [pt sn, .int .i64 k, .string s] [shB sn mn, mpB mn l] (Ret (.bool true) [shB sn mn, mpB mn (setS l k s)]) := by
 refine fn_intro Tryz.func169 (by kernel_rfl) ?_
 repeat' ((conv => whnf); first
  | refine eq_map_nil rfl rfl rfl rfl ?_ | (refine map_put (keyI rfl) rfl ?_; rw [setM_vS]) | refine ld1_lit ?_)
 all_goals (conv => whnf)
 all_goals exact fin_all ⟨rfl, rfl⟩
def getV (l : List (Int × ByteArray)) (k : Int) : ByteArray := (getS l k).getD ByteArray.empty
theorem sget (sn mn : Nat) (l : List (Int × ByteArray)) (k : Int) : Fnc Tryz.prog 170 [pt sn, .int .i64 k] [shB sn mn, mpB mn l] (Ret (.tuple #[.string (getV l k), .bool (getS l k).isSome]) [shB sn mn, mpB mn l]) := by
 have hg := getM_vS k l
 unfold getV
 cases h : getS l k with
 | none =>
   rw [h] at hg
   refine fn_intro Tryz.func170 (by kernel_rfl) ?_
   repeat' ((conv => whnf); first
    | (refine map_look (keyI rfl) rfl rfl rfl ?_; rw [hg]) | refine ld1_lit ?_)
   all_goals (conv => whnf)
   all_goals exact fin_all ⟨rfl, rfl⟩
 | some s =>
   rw [h] at hg
   refine fn_intro Tryz.func170 (by kernel_rfl) ?_
   repeat' ((conv => whnf); first
    | (refine map_look (keyI rfl) rfl rfl rfl ?_; rw [hg]) | refine ld1_lit ?_)
   all_goals (conv => whnf)
   all_goals exact fin_all ⟨rfl, rfl⟩
theorem slen (sn mn : Nat) (l : List (Int × ByteArray)) : Fnc Tryz.prog 120 [pt sn] [shB sn mn, mpB mn l] (Ret (.int .i64 l.length) [shB sn mn, mpB mn l]) := by
 refine fn_intro Tryz.func120 (by kernel_rfl) ?_
 repeat' ((conv => whnf); first
  | (refine map_len (K := Int) (e := kI) rfl ?_; rw [vS_len]) | refine ld1_lit ?_)
 all_goals (conv => whnf)
 all_goals exact fin_all ⟨rfl, rfl⟩
theorem sclear (sn mn : Nat) (l : List (Int × ByteArray)) : Fnc Tryz.prog 223 [pt sn] [shB sn mn, mpB mn l] (fun e A => ∃ mn', e = .returned (.tuple #[]) ∧ A = [shB sn mn', mpB mn' []]) := by
 refine fn_intro Tryz.func223 (by kernel_rfl) ?_
 repeat' ((conv => whnf); first
  | refine map_make kI (fun r => ?_) | refine st_lit rfl ?_ | refine need (by first | rfl | omega) ?_)
 all_goals (conv => whnf)
 exact fin_pick (A' := [⟨sn, _⟩, ⟨r, _⟩]) (.cons takeC (.cons takeC .nil)) ⟨r, rfl, by unfold mpB vS; rfl⟩
end Tree
namespace Tree
open Go Ev Sha Aes Orc Node
open Rig (RigP Rg rgM readR writeR z64 app_of)
structure TreP where
 d : Int
 root : Dg
 sheet : List (Int × ByteArray)
 known : List (Int × ByteArray)
structure TreA where
 rn : Nat
 on : Nat
 sn : Nat
 mn : Nat
 kn : Nat
structure Tre where
 a : TreA
 t : TreP
def treC (rn on : Nat) (d : Int) (root : Dg) (sn kn : Nat) : List Value := pt rn :: pt on :: .int .i64 d :: (dgV root ++ [pt sn, .map (some kn)])
abbrev tB (n : Nat) (a : TreA) (d : Int) (root : Dg) : Blk := ⟨n, .row (treC a.rn a.on d root a.sn a.kn) 242⟩
def treM (n : Nat) (x : Tre) : List Blk := [tB n x.a x.t.d x.t.root, shB x.a.sn x.a.mn, mpB x.a.mn x.t.sheet, mpB x.a.kn x.t.known]
theorem treC_len (rn on : Nat) (d : Int) (root : Dg) (sn kn : Nat) : (treC rn on d root sn kn).length = 37 := by unfold treC; simp [dgV_len]
theorem treC_0 {rn on : Nat} {d : Int} {root : Dg} {sn kn : Nat} : (treC rn on d root sn kn)[0]? = some (pt rn) := rfl
theorem treC_1 {rn on : Nat} {d : Int} {root : Dg} {sn kn : Nat} : (treC rn on d root sn kn)[0 + 1]? = some (pt on) := rfl
theorem treC_2 {rn on : Nat} {d : Int} {root : Dg} {sn kn : Nat} : (treC rn on d root sn kn)[0 + 2]? = some (.int .i64 d) := rfl
theorem treC_s {rn on : Nat} {d : Int} {root : Dg} {sn kn : Nat} : (treC rn on d root sn kn)[0 + 35]? = some (pt sn) := by
 show (pt rn :: pt on :: .int .i64 d :: (dgV root ++ [pt sn, .map (some kn)]))[32 + 3]? = _
 rw [List.getElem?_cons_succ, List.getElem?_cons_succ, List.getElem?_cons_succ, List.getElem?_append_right (by rw [dgV_len]; omega), dgV_len]; rfl
theorem treC_k {rn on : Nat} {d : Int} {root : Dg} {sn kn : Nat} : (treC rn on d root sn kn)[0 + 36]? = some (.map (some kn)) := by
 show (pt rn :: pt on :: .int .i64 d :: (dgV root ++ [pt sn, .map (some kn)]))[33 + 3]? = _
 rw [List.getElem?_cons_succ, List.getElem?_cons_succ, List.getElem?_cons_succ, List.getElem?_append_right (by rw [dgV_len]; omega), dgV_len]; rfl
theorem treC_r (rn on : Nat) (d : Int) (root : Dg) (sn kn : Nat) : ((treC rn on d root sn kn).drop (0 + 3)).take (dgV root).length = dgV root := by
 show ((dgV root ++ [pt sn, .map (some kn)])).take (dgV root).length = dgV root
 rw [List.take_left']; rfl
theorem splice1 {X B : List Value} {n : Nat} {u a : Value} (hX : X.length = n) : (X ++ (u :: B)).take n ++ [a] ++ (X ++ (u :: B)).drop (n + 1) = X ++ (a :: B) := by
 rw [List.take_left' hX, show n + 1 = X.length + 1 by omega, ← List.drop_drop, List.drop_left]; simp
theorem splice2 {X B : List Value} {n : Nat} {u v a : Value} (hX : X.length = n) : (X ++ (v :: u :: B)).take (n + 1) ++ [a] ++ (X ++ (v :: u :: B)).drop (n + 2) = X ++ (v :: a :: B) := by
 have h := splice1 (X := X ++ [v]) (B := B) (n := n + 1) (u := u) (a := a) (by simp [hX])
 simpa using h
theorem kDg : kindsOf Tryz.prog 3 30 = some (List.replicate 32 (.int .u8)) := by kernel_rfl
theorem fits_rep {k : Kd} : ∀ {l : List Value}, (∀ v ∈ l, k.ok v) → Fits (List.replicate l.length k) l
 | [], _ => trivial
 | v :: l, h => ⟨h v List.mem_cons_self, fits_rep fun u hu => h u (List.mem_cons_of_mem _ hu)⟩
theorem fDg (a : Dg) : Fits (List.replicate 32 (.int .u8)) (dgV a) := by
 have h : Fits (List.replicate (dgV a).length (.int .u8)) (dgV a) := fits_rep fun v hv => by
  unfold dgV at hv; obtain ⟨j, _, rfl⟩ := List.mem_map.1 hv; exact ⟨_, rfl⟩
 rwa [dgV_len] at h
theorem fldN_dg {RO : List Blk} {n : Nat} {t : TypeId} {a : Dg} {m : Nat} {K : List Value → Prop} [h : Look RO n (.row (dgV a) t)] (hm : 32 = m) (hk : K (dgV a)) : FLdN RO n 0 m K :=
 ⟨⟨dgV a, by rw [dgV_len, hm], fun w hw => row_at (hw.1 _ h.mem) (dgV_all a), hk⟩⟩
section
variable {M : List Blk} {n : Nat} {a : TreA} {d : Int} {root : Dg} {T : TypeId} {rn on sn kn : Nat}
theorem st_root {P : Program} {b : Dg} {f : Blk → List Blk} {K : List Blk → Prop} [z : Zip M n (.row (treC rn on d root sn kn) T) f] (hk : K (f ⟨n, .row (treC rn on d b sn kn) T⟩)) : StN P M n (0 + 3) (dgV b) K :=
 st_rowN (dgV_one b) (by rw [treC_len, dgV_len]; omega) (by
  have : (treC rn on d root sn kn).take (0 + 3) ++ dgV b ++ (treC rn on d root sn kn).drop (0 + 3 + (dgV b).length) = treC rn on d b sn kn := by
   rw [dgV_len]
   show ([pt rn, pt on, .int .i64 d] ++ dgV b) ++ ((dgV root ++ [pt sn, .map (some kn)]).drop 32) = _
   rw [List.drop_left' (dgV_len root)]; rfl
  rw [this]; exact hk)
end
attribute [local irreducible] dgV D vS mapK Instr.lookup Instr.mapUpdate Instr.makeMap Builtin.len_ treC
theorem tnew (rn on : Nat) (d : Int) (root : Dg) (hd : d = 0 ∨ d = 1) : Fnc Tryz.prog 196 [pt rn, pt on, .int .i64 d, .agg (dgV root).toArray] [] (fun e A => ∃ n a, a.rn = rn ∧ a.on = on ∧ e = .returned (.tuple #[pt n, .int .i64 0]) ∧ A = treM n ⟨a, ⟨d, root, [], []⟩⟩) := by
 have ht : ∀ (sn kn : Nat), pt rn :: pt on :: .int .i64 d :: (dgV root ++ [pt sn, .map (some kn)]) = treC rn on d root sn kn := fun sn kn => by unfold treC; rfl
 rcases hd with rfl | rfl
 all_goals
  refine fn_intro Tryz.func196 (by kernel_rfl) ?_
  repeat' ((conv => whnf); first
   | refine force_of ?_ | refine nw_dg (fun n => ?_) | (refine ifs (fun h => ?_) (fun h => ?_) <;> try (exfalso; first | omega | with_reducible first | contradiction | exact h rfl)))
  revert n; intro bn
  refine draw_tree 5 (.take 0 (.take 1 (.take 2 (.take 3 (.two 4 5 (.only 5 (.take 6 (.only 7 (.take 8 (.take 9 .nil))))) (.only 4 (.take 6 (.only 7 (.take 8 (.take 9 .nil)))))))))) [⟨bn, _⟩] rfl (by kernel_rfl) (kept1 ?_)
  repeat' ((conv => whnf); first
   | refine And.intro ?_ ?_ | refine kept1 (n := bn) ?_ | refine fldN_dg (n := bn) rfl ?_ | (refine call_g snew .nil (fun e A' hq => ?_); obtain ⟨sn, mn, h1, h2⟩ := hq; subst h1; subst h2) | refine map_make kI (fun kn => ?_) | (refine bld_cons (vs := [_]) rfl rfl rfl (Nat.le_of_ble_eq_true rfl) rfl ?_; refine bld_cons (vs := [_]) rfl rfl rfl (Nat.le_of_ble_eq_true rfl) rfl ?_; refine bld_cons (vs := [_]) rfl rfl rfl (Nat.le_of_ble_eq_true rfl) rfl ?_; refine bld_cons (vs := dgV root) (cs1 := pt rn :: pt on :: .int .i64 _ :: (dgV root ++ [.pointer none, .map none])) rfl rfl (dgV_len _) (Nat.le_of_ble_eq_true rfl) rfl ?_; refine bld_cons (vs := [_]) rfl rfl rfl (by simp [dgV_len]; exact Nat.le_of_ble_eq_true rfl) (splice1 (X := pt rn :: pt on :: .int .i64 _ :: dgV root) (n := 35) (by simp [dgV_len])) ?_; refine bld_cons (vs := [_]) rfl rfl rfl (by simp [dgV_len]; exact Nat.le_of_ble_eq_true rfl) (splice2 (X := pt rn :: pt on :: .int .i64 _ :: dgV root) (n := 35) (by simp [dgV_len])) ?_; refine bld_nil ?_) | refine nw_row (ht sn kn).symm (fun n => ?_) | refine force_of ?_)
  all_goals (conv => whnf)
  all_goals exact fin_pick (A' := [⟨n, _⟩, ⟨sn, _⟩, ⟨mn, _⟩, ⟨kn, _⟩]) (.cons takeC (.cons takeC (.cons takeC (.cons takeC .nil)))) ⟨n, ⟨rn, on, sn, mn, kn⟩, rfl, rfl, rfl, by unfold treM mpB vS; rfl⟩
end Tree
namespace Tree
open Go Ev Sha Aes Orc Node
open Rig (RigP Rg rgM readR writeR z64 app_of)
abbrev cT (c n : Nat) : Blk := ⟨c, .cells [pt n] 109⟩
attribute [local irreducible] dgV D vS mapK Instr.lookup Instr.mapUpdate Instr.makeMap Builtin.len_ treC readR
theorem cl_node (o : Orc) (a : TreA) (d : Int) (root : Dg) (tn c : Nat) (s : ByteArray) (hon : a.on = o.on) (hb : o.ts.length ≤ 1099511627000) :
 Fnc Tryz.prog 240 [.string s, pt c] (orcM o ++ [cT c tn, tB tn a d root]) (RetO o (nodeD o.ts s).1 (fun o' => orcM o' ++ [cT c tn, tB tn a d root]) (.tuple #[.agg (dgV (nodeD o.ts s).2).toArray, .int .i64 (sizeE s)])) := by
 obtain ⟨rn, on, sn, mn, kn⟩ := a
 simp only at hon
 subst hon
 refine fn_intro Tryz.func240 (by kernel_rfl) ?_
 repeat' ((conv => whnf); first
  | refine nw_z (fun n => ?_) | refine ld1_row treC_1 ?_ | (refine call_go (node_ o s (by omega)) (.one takeG) (fun o' h1 h2 => ?_)) | refine force_of ?_ | refine need (dgV_len _) ?_ | refine st_dg ?_ | refine ldN_dg rfl ?_ | refine ld1_lit ?_)
 all_goals (conv => whnf)
 all_goals exact fin_g (A := orcM o' ++ [⟨c, _⟩, ⟨tn, _⟩]) (.grp takeG (.blk takeC (.blk takeC .nil))) ⟨o', h1, h2, rfl, rfl⟩
theorem cl_leaf (o : Orc) (a : TreA) (d : Int) (root : Dg) (tn c : Nat) (s : ByteArray) (hon : a.on = o.on) (hb : o.ts.length ≤ 1099511627000) :
 Fnc Tryz.prog 172 [.string s, pt c] (orcM o ++ [cT c tn, tB tn a d root]) (RetO o (leafD o.ts s).1 (fun o' => orcM o' ++ [cT c tn, tB tn a d root]) (.tuple #[.agg (dgV (leafD o.ts s).2).toArray, .int .i64 (sizeE s)])) := by
 obtain ⟨rn, on, sn, mn, kn⟩ := a
 simp only at hon
 subst hon
 refine fn_intro Tryz.func172 (by kernel_rfl) ?_
 repeat' ((conv => whnf); first
  | refine nw_z (fun n => ?_) | refine ld1_row treC_1 ?_ | (refine call_go (leaf_ o s (by omega)) (.one takeG) (fun o' h1 h2 => ?_)) | refine force_of ?_ | refine need (dgV_len _) ?_ | refine st_dg ?_ | refine ldN_dg rfl ?_ | refine ld1_lit ?_)
 all_goals (conv => whnf)
 all_goals exact fin_g (A := orcM o' ++ [⟨c, _⟩, ⟨tn, _⟩]) (.grp takeG (.blk takeC (.blk takeC .nil))) ⟨o', h1, h2, rfl, rfl⟩
noncomputable def readT (sf : List ByteArray → ByteArray → List ByteArray × Dg) (r : RigP) (ts : List ByteArray) (d at_ : Int) (want : Dg) : RigP × List ByteArray × ByteArray × Int :=
 if (readR r d at_).2.2 ≠ 0 then ((readR r d at_).1, ts, ByteArray.empty, (readR r d at_).2.2)
 else if dl (sf ts (readR r d at_).2.1).2 = dl want then ((readR r d at_).1, (sf ts (readR r d at_).2.1).1, (readR r d at_).2.1, 0)
 else ((readR r d at_).1, (sf ts (readR r d at_).2.1).1, ByteArray.empty, 12)
theorem tread (sf : List ByteArray → ByteArray → List ByteArray × Dg) (g : Rg) (o : Orc) (a : TreA) (d : Int) (root : Dg) (tn c : Nat) (at_ : Int) (want : Dg) (f : FuncId) (hrn : a.rn = g.a.rn)
 (hf : ∀ s, Fnc Tryz.prog f [.string s, pt c] (orcM o ++ [cT c tn, tB tn a d root]) (RetO o (sf o.ts s).1 (fun o' => orcM o' ++ [cT c tn, tB tn a d root]) (.tuple #[.agg (dgV (sf o.ts s).2).toArray, .int .i64 (sizeE s)]))) :
 Fnc Tryz.prog 171 [pt tn, .int .i64 at_, .func (.func f) #[] #[pt c], .agg (dgV want).toArray] (rgM g ++ (orcM o ++ [cT c tn, tB tn a d root]))
  (RetO o (readT sf g.r o.ts d at_ want).2.1 (fun o' => rgM ⟨g.a, (readT sf g.r o.ts d at_ want).1⟩ ++ (orcM o' ++ [cT c tn, tB tn a d root])) (.tuple #[.string (readT sf g.r o.ts d at_ want).2.2.1, .int .i64 (readT sf g.r o.ts d at_ want).2.2.2])) := by
 obtain ⟨rn, on, sn, mn, kn⟩ := a
 simp only at hrn
 subst hrn
 have hr := Rig.read_ g d at_
 by_cases he : (readR g.r d at_).2.2 = 0
 · rw [he] at hr
   by_cases hd : dl (sf o.ts (readR g.r d at_).2.1).2 = dl want
   · have e : readT sf g.r o.ts d at_ want = ((readR g.r d at_).1, (sf o.ts (readR g.r d at_).2.1).1, (readR g.r d at_).2.1, 0) := by unfold readT; rw [if_neg (by simp [he]), if_pos hd]
     have hd2 := dgV_inj.2 hd
     rw [e]
     refine fn_intro Tryz.func171 (by kernel_rfl) ?_
     repeat' ((conv => whnf); first
      | refine force_of ?_ | refine nw_dg (fun n => ?_) | refine nw_z (fun n => ?_) | refine draw_any 1 [(0, true), (1, true), (2, true), (4, true), (5, true), (6, true), (8, true), (3, true), (7, false), (9, false), (10, true), (11, true), (12, true), (13, true), (14, true)] [⟨tn, _⟩] rfl (by kernel_rfl) (kept1 (n := tn) ?_) | refine kept1 (n := tn) ?_ | refine fld1_row treC_0 ?_ | refine ld1_row treC_2 ?_ | (refine call_gr hr (.one takeG) ?_) | (refine call_go (hf _) (.grp takeG (.blk takeC (.blk takeC .nil))) (fun o' h1 h2 => ?_)) | refine need (dgV_len _) ?_ | refine st_dg ?_ | refine ldN_dg rfl ?_ | (refine agg_neq kDg (by decide) rfl rfl rfl rfl (by kernel_rfl) (fDg _) (fDg _) ?_; refine ift hd2 ?_) | (refine ifs (fun h => ?_) (fun h => ?_) <;> try (exfalso; first | omega | with_reducible first | contradiction | exact h rfl)))
     all_goals (conv => whnf)
     all_goals exact fin_g (A := rgM ⟨g.a, _⟩ ++ (orcM o' ++ [⟨c, _⟩, ⟨tn, _⟩])) (.grp takeG (.grp takeG (.blk takeC (.blk takeC .nil)))) ⟨o', h1, h2, rfl, rfl⟩
   · have e : readT sf g.r o.ts d at_ want = ((readR g.r d at_).1, (sf o.ts (readR g.r d at_).2.1).1, ByteArray.empty, 12) := by unfold readT; rw [if_neg (by simp [he]), if_neg hd]
     have hd2 : ¬ dgV (sf o.ts (readR g.r d at_).2.1).2 = dgV want := fun h => hd (dgV_inj.1 h)
     rw [e]
     refine fn_intro Tryz.func171 (by kernel_rfl) ?_
     repeat' ((conv => whnf); first
      | refine force_of ?_ | refine nw_dg (fun n => ?_) | refine nw_z (fun n => ?_) | refine draw_any 1 [(0, true), (1, true), (2, true), (4, true), (5, true), (6, true), (8, true), (3, true), (7, false), (9, false), (10, true), (11, true), (12, true), (13, true), (14, true)] [⟨tn, _⟩] rfl (by kernel_rfl) (kept1 (n := tn) ?_) | refine kept1 (n := tn) ?_ | refine fld1_row treC_0 ?_ | refine ld1_row treC_2 ?_ | (refine call_gr hr (.one takeG) ?_) | (refine call_go (hf _) (.grp takeG (.blk takeC (.blk takeC .nil))) (fun o' h1 h2 => ?_)) | refine need (dgV_len _) ?_ | refine st_dg ?_ | refine ldN_dg rfl ?_ | (refine agg_neq kDg (by decide) rfl rfl rfl rfl (by kernel_rfl) (fDg _) (fDg _) ?_; refine iff' hd2 ?_) | (refine ifs (fun h => ?_) (fun h => ?_) <;> try (exfalso; first | omega | with_reducible first | contradiction | exact h rfl)))
     all_goals (conv => whnf)
     all_goals exact fin_g (A := rgM ⟨g.a, _⟩ ++ (orcM o' ++ [⟨c, _⟩, ⟨tn, _⟩])) (.grp takeG (.grp takeG (.blk takeC (.blk takeC .nil)))) ⟨o', h1, h2, rfl, rfl⟩
 · have e : readT sf g.r o.ts d at_ want = ((readR g.r d at_).1, o.ts, ByteArray.empty, (readR g.r d at_).2.2) := by unfold readT; rw [if_pos he]
   rw [e]
   generalize (readR g.r d at_).2.2 = ec at *
   generalize (readR g.r d at_).2.1 = sc at *
   refine fn_intro Tryz.func171 (by kernel_rfl) ?_
   repeat' ((conv => whnf); first
    | refine force_of ?_ | refine nw_dg (fun n => ?_) | refine draw_any 1 [(0, true), (1, true), (2, true), (4, true), (5, true), (6, true), (8, true), (3, true), (7, false), (9, false), (10, true), (11, true), (12, true), (13, true), (14, true)] [⟨tn, _⟩] rfl (by kernel_rfl) (kept1 (n := tn) ?_) | refine kept1 (n := tn) ?_ | refine fld1_row treC_0 ?_ | refine ld1_row treC_2 ?_ | (refine call_gr hr (.one takeG) ?_) | (refine ifs (fun h => ?_) (fun h => ?_) <;> try (exfalso; first | omega | with_reducible first | contradiction | exact h rfl)))
   all_goals (conv => whnf)
   all_goals exact fin_g (A := rgM ⟨g.a, _⟩ ++ (orcM o ++ [⟨c, _⟩, ⟨tn, _⟩])) (.grp takeG (.grp takeG (.blk takeC (.blk takeC .nil)))) ⟨o, rfl, rfl, rfl, rfl⟩
end Tree
namespace Tree
open Go Ev Sha Aes Orc Node
open Rig (RigP Rg rgM readR writeR z64 app_of)
theorem nodeAt_ok {n : Nat} (h : n < 63) : Fnc Tryz.prog 204 [.int .i64 n] [] (Ret (.tuple #[.int .i64 ((161 + n : Nat) : Int), .int .i64 0]) []) := by
 have := Geom.nodeAt n
 rw [if_pos ⟨by omega, by omega⟩] at this
 rw [show ((161 + n : Nat) : Int) = 161 + (n : Int) by omega]
 exact this
theorem leafAt_ok {n : Nat} (h : n < 64) : Fnc Tryz.prog 165 [.int .i64 n] [] (Ret (.tuple #[.int .i64 ((224 + n : Nat) : Int), .int .i64 0]) []) := by
 have := Geom.leafAt n
 rw [if_pos ⟨by omega, by omega⟩] at this
 rw [show ((224 + n : Nat) : Int) = 224 + (n : Int) by omega]
 exact this
theorem leafAt_no {n : Int} (h : ¬ (0 ≤ n ∧ n < 64)) : Fnc Tryz.prog 165 [.int .i64 n] [] (Ret (.tuple #[.int .i64 0, .int .i64 3]) []) := by
 have := Geom.leafAt n
 rwa [if_neg h] at this
structure NodeR where
 r : RigP
 ts : List ByteArray
 t : TreP
 s : ByteArray
 e : Int
noncomputable def nodeT (r : RigP) (ts : List ByteArray) (t : TreP) (n : Nat) (want : Dg) : NodeR :=
 match getS t.known n with
 | some s => ⟨r, ts, t, s, 0⟩
 | none =>
   if (readT nodeD r ts t.d (161 + n : Nat) want).2.2.2 = 0 then
    ⟨(readT nodeD r ts t.d (161 + n : Nat) want).1, (readT nodeD r ts t.d (161 + n : Nat) want).2.1, { t with known := setS t.known n (readT nodeD r ts t.d (161 + n : Nat) want).2.2.1 }, (readT nodeD r ts t.d (161 + n : Nat) want).2.2.1, 0⟩
   else ⟨(readT nodeD r ts t.d (161 + n : Nat) want).1, (readT nodeD r ts t.d (161 + n : Nat) want).2.1, t, (readT nodeD r ts t.d (161 + n : Nat) want).2.2.1, (readT nodeD r ts t.d (161 + n : Nat) want).2.2.2⟩
attribute [local irreducible] dgV D vS mapK Instr.lookup Instr.mapUpdate Instr.makeMap Builtin.len_ treC readR readT
theorem tnode (g : Rg) (o : Orc) (tn : Nat) (a : TreA) (t : TreP) (n : Nat) (want : Dg) (hn : n < 63) (hrn : a.rn = g.a.rn) (hon : a.on = o.on) (hb : o.ts.length ≤ 1099511627000) :
 Fnc Tryz.prog 211 [pt tn, .int .i64 n, .agg (dgV want).toArray] (rgM g ++ (orcM o ++ treM tn ⟨a, t⟩))
  (RetO o (nodeT g.r o.ts t n want).ts (fun o' => rgM ⟨g.a, (nodeT g.r o.ts t n want).r⟩ ++ (orcM o' ++ treM tn ⟨a, (nodeT g.r o.ts t n want).t⟩)) (.tuple #[.string (nodeT g.r o.ts t n want).s, .int .i64 (nodeT g.r o.ts t n want).e])) := by
 have hna := nodeAt_ok hn
 have hg := getM_vS n t.known
 unfold treM
 cases hk : getS t.known n with
 | some s =>
   have e : nodeT g.r o.ts t n want = ⟨g.r, o.ts, t, s, 0⟩ := by unfold nodeT; rw [hk]
   rw [hk] at hg
   rw [e]
   refine fn_intro Tryz.func211 (by kernel_rfl) ?_
   repeat' ((conv => whnf); first
    | refine force_of ?_ | refine nw_dg (fun n => ?_) | refine ld1_row treC_k ?_ | (refine map_look (keyI rfl) rfl rfl rfl ?_; rw [hg]) | refine ld1_lit ?_ | refine nw (fun n => ?_))
   all_goals (conv => whnf)
   all_goals exact fin_g (A := rgM g ++ (orcM o ++ [⟨tn, _⟩, ⟨a.sn, _⟩, ⟨a.mn, _⟩, ⟨a.kn, _⟩])) (.grp takeG (.grp takeG (.blk takeC (.blk takeC (.blk takeC (.blk takeC .nil)))))) ⟨o, rfl, rfl, rfl, rfl⟩
 | none =>
   rw [hk] at hg
   have hr : ∀ c, Fnc Tryz.prog 171 _ _ _ := fun c => tread nodeD g o a t.d t.root tn c (161 + n : Nat) want 240 hrn (fun s => cl_node o a t.d t.root tn c s hon hb)
   by_cases he : (readT nodeD g.r o.ts t.d (161 + n : Nat) want).2.2.2 = 0
   · have e : nodeT g.r o.ts t n want = ⟨(readT nodeD g.r o.ts t.d (161 + n : Nat) want).1, (readT nodeD g.r o.ts t.d (161 + n : Nat) want).2.1, { t with known := setS t.known n (readT nodeD g.r o.ts t.d (161 + n : Nat) want).2.2.1 }, (readT nodeD g.r o.ts t.d (161 + n : Nat) want).2.2.1, 0⟩ := by
      unfold nodeT; rw [hk]; simp only; rw [if_pos he]
     rw [e]
     rw [he] at hr
     refine fn_intro Tryz.func211 (by kernel_rfl) ?_
     repeat' ((conv => whnf); first
      | refine force_of ?_ | refine nw_dg (fun n => ?_) | refine ldN_dg rfl ?_ | refine ld1_row treC_k ?_ | (refine map_look (keyI rfl) rfl rfl rfl ?_; rw [hg]) | refine call_val hna ?_ | (refine call_go (hr _) (.grp takeG (.grp takeG (.blk takeC (.blk takeC .nil)))) (fun o' h1 h2 => ?_)) | (refine map_put (keyI rfl) rfl ?_; rw [setM_vS]) | refine ld1_lit ?_ | refine nw (fun n => ?_) | (refine ifs (fun h => ?_) (fun h => ?_) <;> try (exfalso; first | omega | with_reducible first | contradiction | exact h rfl)))
     all_goals (conv => whnf)
     all_goals exact fin_g (A := rgM ⟨g.a, _⟩ ++ (orcM o' ++ [⟨tn, _⟩, ⟨a.sn, _⟩, ⟨a.mn, _⟩, ⟨a.kn, _⟩])) (.grp takeG (.grp takeG (.blk takeC (.blk takeC (.blk takeC (.blk takeC .nil)))))) ⟨o', h1, h2, rfl, rfl⟩
   · have e : nodeT g.r o.ts t n want = ⟨(readT nodeD g.r o.ts t.d (161 + n : Nat) want).1, (readT nodeD g.r o.ts t.d (161 + n : Nat) want).2.1, t, (readT nodeD g.r o.ts t.d (161 + n : Nat) want).2.2.1, (readT nodeD g.r o.ts t.d (161 + n : Nat) want).2.2.2⟩ := by
      unfold nodeT; rw [hk]; simp only; rw [if_neg he]
     rw [e]
     refine fn_intro Tryz.func211 (by kernel_rfl) ?_
     repeat' ((conv => whnf); first
      | refine force_of ?_ | refine nw_dg (fun n => ?_) | refine ldN_dg rfl ?_ | refine ld1_row treC_k ?_ | (refine map_look (keyI rfl) rfl rfl rfl ?_; rw [hg]) | refine call_val hna ?_ | (refine call_go (hr _) (.grp takeG (.grp takeG (.blk takeC (.blk takeC .nil)))) (fun o' h1 h2 => ?_)) | refine iff' he ?_ | refine ld1_lit ?_ | refine nw (fun n => ?_))
     all_goals (conv => whnf)
     all_goals exact fin_g (A := rgM ⟨g.a, _⟩ ++ (orcM o' ++ [⟨tn, _⟩, ⟨a.sn, _⟩, ⟨a.mn, _⟩, ⟨a.kn, _⟩])) (.grp takeG (.grp takeG (.blk takeC (.blk takeC (.blk takeC (.blk takeC .nil)))))) ⟨o', h1, h2, rfl, rfl⟩
end Tree
end Go.Proofs.YtkjamonkohpcnaaGreat
