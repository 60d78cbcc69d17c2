/- A vault on any rig: numbers, Seal, Write; a vault on a store that failed. -/
import Derived.Test.YtohefdmfnllehaaGreatAf22
namespace Go.Proofs.YtohefdmfnllehaaGreat.Flt
open Go Ev Sha Aes Orc Node Rec Chn Jrn Cau Sto Stg Ivs Ctr Aut
open Rig (Fnc_takeR RigP Rg rgM z64 app_of RigA)
open Tree (TreP TreA Tre treM)
set_option linter.unusedVariables false
set_option linter.unusedSimpArgs false
set_option maxRecDepth 100000
structure NuR where
  r : RigP
  V : StoV
  x : RwP
  n : Int
  e : Int
/-- A number taken, on any rig. -/
noncomputable def numO (r : RigP) (V : StoV) (x : RwP) : NuR :=
  if x.next < x.top then ⟨r, V, { x with next := x.next + 1 }, x.next, 0⟩
  else if x.many ≤ x.top then ⟨r, V, x, 0, 16⟩
  else if (raiseG r V (needN x)).e = 0 then ⟨(raiseG r V (needN x)).r, (raiseG r V (needN x)).V, ⟨x.next + 1, needN x, x.many⟩, x.next, 0⟩
  else ⟨(raiseG r V (needN x)).r, (raiseG r V (needN x)).V, x, 0, (raiseG r V (needN x)).e⟩
attribute [local irreducible] srF RgV.lay Sto.c rowK raiseG
set_option maxHeartbeats 1000000 in
theorem number_g (a : RigA) (r : RigP) (A : StoA) (V : StoV) (B : VA) (v : VP) (hrn : V.rn = a.rn) (hrow : rowOk v.x) (hfl : V.failed = 0) :
    Fnc Tryz.prog 80 [pt B.vn] (rgM ⟨a, r⟩ ++ [stB A.sn (Sto.c ⟨A, V⟩), vB B A.sn v, rwB B.wn v.x])
      (Ret (.tuple #[.int .i64 (numO r V v.x).n, .int .i64 (numO r V v.x).e]) (rgM ⟨a, (numO r V v.x).r⟩ ++ [stB A.sn (Sto.c ⟨A, (numO r V v.x).V⟩), vB B A.sn v, rwB B.wn (numO r V v.x).x])) := by
  have h1 := need_ B.wn v.x hrow
  obtain ⟨g0, g1, g2, g3⟩ := id hrow
  by_cases hlt : v.x.next < v.x.top
  · rw [show needB v.x = false by unfold needB; exact decide_eq_false (by omega)] at h1
    have h2 := itake B.wn v.x hrow hlt
    rw [show numO r V v.x = ⟨r, V, { v.x with next := v.x.next + 1 }, v.x.next, 0⟩ by unfold numO; rw [if_pos hlt]]
    refine fn_intro Tryz.func80 (by kernel_rfl) ?_
    repeat' ((conv => whnf); first
        | refine call_gr h1 (.blk takeC .nil) ?_
        | refine call_gr h2 (.blk takeC .nil) ?_
        | refine ld1_lit ?_
        | refine ldN_lit ?_
        | refine nw (fun n => ?_)
        | refine bld ?_
        | refine st_lit rfl ?_
        | refine need (by first | rfl | omega) ?_
        | (refine wr (fun z hz => ?_); (try rw [Int.tdiv_eq_ediv_of_nonneg (by omega)] at hz); rw [w64 (by omega) (by omega)] at hz; subst hz)
        | (refine zv (fun z hz => ?_); (try rw [Int.tmod_eq_emod_of_nonneg (by omega)] at hz); subst hz)
        | (refine ifs (fun h => ?_) (fun h => ?_) <;> (try (exfalso; first | omega | with_reducible contradiction | with_reducible exact h rfl))))
    all_goals (conv => whnf)
    all_goals exact fin_g (A := rgM _ ++ [⟨A.sn, _⟩, ⟨B.vn, _⟩, ⟨B.wn, _⟩]) (.grp takeG (.blk takeC (.blk takeC (.blk takeC .nil)))) ⟨rfl, rfl⟩
  by_cases hm : v.x.many ≤ v.x.top
  · rw [show needB v.x = false by unfold needB; exact decide_eq_false (by omega)] at h1
    have h2 := itake_no B.wn v.x hrow (by omega)
    rw [show numO r V v.x = ⟨r, V, v.x, 0, 16⟩ by unfold numO; rw [if_neg hlt, if_pos hm]]
    refine fn_intro Tryz.func80 (by kernel_rfl) ?_
    repeat' ((conv => whnf); first
        | refine call_gr h1 (.blk takeC .nil) ?_
        | refine call_gr h2 (.blk takeC .nil) ?_
        | refine ld1_lit ?_
        | refine ldN_lit ?_
        | refine nw (fun n => ?_)
        | refine bld ?_
        | refine st_lit rfl ?_
        | refine need (by first | rfl | omega) ?_
        | (refine wr (fun z hz => ?_); (try rw [Int.tdiv_eq_ediv_of_nonneg (by omega)] at hz); rw [w64 (by omega) (by omega)] at hz; subst hz)
        | (refine zv (fun z hz => ?_); (try rw [Int.tmod_eq_emod_of_nonneg (by omega)] at hz); subst hz)
        | (refine ifs (fun h => ?_) (fun h => ?_) <;> (try (exfalso; first | omega | with_reducible contradiction | with_reducible exact h rfl))))
    all_goals (conv => whnf)
    all_goals exact fin_g (A := rgM _ ++ [⟨A.sn, _⟩, ⟨B.vn, _⟩, ⟨B.wn, _⟩]) (.grp takeG (.blk takeC (.blk takeC (.blk takeC .nil)))) ⟨rfl, rfl⟩
  rw [show needB v.x = true by unfold needB; exact decide_eq_true (by omega)] at h1
  have hr := raiseg a r A V (needN v.x) hrn hfl
  have hN : needN v.x = min (v.x.top + 16) v.x.many := by unfold needN; rw [if_neg (by omega)]
  have h2 := iraise B.wn v.x (needN v.x) (by omega)
  have h3 := itake B.wn { v.x with top := needN v.x } ⟨by show 0 ≤ v.x.next; omega, by show v.x.next ≤ needN v.x; omega, by show needN v.x ≤ v.x.many; omega, by show v.x.many ≤ _; omega⟩ (by show v.x.next < needN v.x; omega)
  have e : numO r V v.x = (if (raiseG r V (needN v.x)).e = 0 then ⟨(raiseG r V (needN v.x)).r, (raiseG r V (needN v.x)).V, ⟨v.x.next + 1, needN v.x, v.x.many⟩, v.x.next, 0⟩ else ⟨(raiseG r V (needN v.x)).r, (raiseG r V (needN v.x)).V, v.x, 0, (raiseG r V (needN v.x)).e⟩) := by unfold numO; rw [if_neg hlt, if_neg hm]
  rw [e]
  clear e
  obtain ⟨q, eq⟩ : ∃ q, q = raiseG r V (needN v.x) := ⟨_, rfl⟩
  rw [← eq] at hr ⊢
  clear eq
  by_cases hz : q.e = 0
  · rw [hz] at hr
    rw [if_pos hz]
    refine fn_intro Tryz.func80 (by kernel_rfl) ?_
    repeat' ((conv => whnf); first
        | refine call_gr h1 (.blk takeC .nil) ?_
        | refine call_gr hr (.grp takeG (.blk takeC .nil)) ?_
        | refine call_gr h2 (.blk takeC .nil) ?_
        | refine call_gr h3 (.blk takeC .nil) ?_
        | refine ld1_lit ?_
        | refine ldN_lit ?_
        | refine nw (fun n => ?_)
        | refine bld ?_
        | refine st_lit rfl ?_
        | refine need (by first | rfl | omega) ?_
        | (refine wr (fun z hz => ?_); (try rw [Int.tdiv_eq_ediv_of_nonneg (by omega)] at hz); rw [w64 (by omega) (by omega)] at hz; subst hz)
        | (refine zv (fun z hz => ?_); (try rw [Int.tmod_eq_emod_of_nonneg (by omega)] at hz); subst hz)
        | (refine ifs (fun h => ?_) (fun h => ?_) <;> (try (exfalso; first | omega | with_reducible contradiction | with_reducible exact h rfl))))
    all_goals (conv => whnf)
    all_goals exact fin_g (A := rgM _ ++ [⟨A.sn, _⟩, ⟨B.vn, _⟩, ⟨B.wn, _⟩]) (.grp takeG (.blk takeC (.blk takeC (.blk takeC .nil)))) ⟨rfl, rfl⟩
  · rw [if_neg hz]
    obtain ⟨qr, qV, qe⟩ := q
    simp only at hz hr ⊢
    refine fn_intro Tryz.func80 (by kernel_rfl) ?_
    repeat' ((conv => whnf); first
        | refine call_gr h1 (.blk takeC .nil) ?_
        | refine call_gr hr (.grp takeG (.blk takeC .nil)) ?_
        | refine ld1_lit ?_
        | refine ldN_lit ?_
        | refine nw (fun n => ?_)
        | refine bld ?_
        | refine st_lit rfl ?_
        | refine need (by first | rfl | omega) ?_
        | (refine wr (fun z hz => ?_); (try rw [Int.tdiv_eq_ediv_of_nonneg (by omega)] at hz); rw [w64 (by omega) (by omega)] at hz; subst hz)
        | (refine zv (fun z hz => ?_); (try rw [Int.tmod_eq_emod_of_nonneg (by omega)] at hz); subst hz)
        | (refine ifs (fun h => ?_) (fun h => ?_) <;> (try (exfalso; first | omega | with_reducible contradiction | with_reducible exact h rfl))))
    all_goals (conv => whnf)
    all_goals exact fin_g (A := rgM _ ++ [⟨A.sn, _⟩, ⟨B.vn, _⟩, ⟨B.wn, _⟩]) (.grp takeG (.blk takeC (.blk takeC (.blk takeC .nil)))) ⟨rfl, rfl⟩
/-! Seal. -/
structure SeR where
  r : RigP
  V : StoV
  v : VP
  s : ByteArray
  e : Int
noncomputable def sealO (r : RigP) (V : StoV) (v : VP) (s : ByteArray) : SeR :=
  if (numO r V v.x).e = 0 then ⟨(numO r V v.x).r, (numO r V v.x).V, ⟨v.k, (numO r V v.x).x, v.n + 1⟩, layB (numO r V v.x).n 1 (cry v.k (numO r V v.x).n s), 0⟩
  else ⟨(numO r V v.x).r, (numO r V v.x).V, ⟨v.k, (numO r V v.x).x, v.n⟩, ByteArray.empty, (numO r V v.x).e⟩
theorem numO_n {r : RigP} {V : StoV} {x : RwP} (h : rowOk x) (he : (numO r V x).e = 0) : (numO r V x).n = x.next ∧ x.next < x.many := by
  unfold rowOk at h
  unfold numO at he ⊢
  split
  · exact ⟨rfl, by omega⟩
  · split
    · rename_i h1 h2; rw [if_neg h1, if_pos h2] at he; exact absurd he (show ¬ (16 : Int) = 0 by decide)
    · split
      · exact ⟨rfl, by omega⟩
      · rename_i h1 h2 h3; rw [if_neg h1, if_neg h2, if_neg h3] at he; exact absurd he h3
attribute [local irreducible] numO
theorem seal_g (a : RigA) (r : RigP) (A : StoA) (V : StoV) (B : VA) (v : VP) (s : ByteArray) (hrn : V.rn = a.rn) (hrow : rowOk v.x) (hfl : V.failed = 0) (hk : ∀ i, by8 (v.k i)) (hs : s.size = 48) (hv : 0 ≤ v.n ∧ v.n < 1099511627776) :
    Fnc Tryz.prog 24 [pt B.vn, .string s] (rgM ⟨a, r⟩ ++ (stB A.sn (Sto.c ⟨A, V⟩) :: vM B A.sn v))
      (Ret (.tuple #[.string (sealO r V v s).s, .int .i64 (sealO r V v s).e]) (rgM ⟨a, (sealO r V v s).r⟩ ++ (stB A.sn (Sto.c ⟨A, (sealO r V v s).V⟩) :: vM B A.sn (sealO r V v s).v))) := by
  have h1 := failed_ A.sn (Sto.c ⟨A, V⟩) (by unfold Sto.c; exact hfl)
  have h2 := number_g a r A V B v hrn hrow hfl
  have h4 := numO_n (r := r) (V := V) hrow
  unfold sealO
  obtain ⟨q, eq⟩ : ∃ q, q = numO r V v.x := ⟨_, rfl⟩
  rw [← eq] at h2 h4 ⊢
  clear eq
  unfold vM
  by_cases hz : q.e = 0
  · rw [hz] at h2
    rw [if_pos hz]
    obtain ⟨h5, h6⟩ := h4 hz
    unfold rowOk at hrow
    have h3 := seal_ B.kn v.k q.n s hk (by unfold numOk; omega) hs
    refine fn_intro Tryz.func24 (by kernel_rfl) ?_
    repeat' ((conv => whnf); first
        | refine call_gr h1 (.blk takeC .nil) ?_
        | refine call_gr h2 (.grp takeG (.blk takeC (.blk takeC (.blk takeC .nil)))) ?_
        | refine call_gr h3 (.blk takeC .nil) ?_
        | refine ld1_lit ?_
        | refine ldN_lit ?_
        | refine nw (fun n => ?_)
        | refine bld ?_
        | refine st_lit rfl ?_
        | refine need (by first | rfl | omega) ?_
        | (refine wr (fun z hz => ?_); (try rw [Int.tdiv_eq_ediv_of_nonneg (by omega)] at hz); rw [w64 (by omega) (by omega)] at hz; subst hz)
        | (refine zv (fun z hz => ?_); (try rw [Int.tmod_eq_emod_of_nonneg (by omega)] at hz); subst hz)
        | (refine ifs (fun h => ?_) (fun h => ?_) <;> (try (exfalso; first | omega | with_reducible contradiction | with_reducible exact h rfl))))
    all_goals (conv => whnf)
    all_goals exact fin_g (A := rgM _ ++ [⟨A.sn, _⟩, ⟨B.vn, _⟩, ⟨B.kn, _⟩, ⟨B.wn, _⟩]) (.grp takeG (.blk takeC (.blk takeC (.blk takeC (.blk takeC .nil))))) ⟨rfl, rfl⟩
  · rw [if_neg hz]
    obtain ⟨qr, qV, qx, qn, qe⟩ := q
    simp only at hz h2 ⊢
    refine fn_intro Tryz.func24 (by kernel_rfl) ?_
    repeat' ((conv => whnf); first
        | refine call_gr h1 (.blk takeC .nil) ?_
        | refine call_gr h2 (.grp takeG (.blk takeC (.blk takeC (.blk takeC .nil)))) ?_
        | refine ld1_lit ?_
        | refine ldN_lit ?_
        | refine nw (fun n => ?_)
        | refine bld ?_
        | refine st_lit rfl ?_
        | refine need (by first | rfl | omega) ?_
        | (refine wr (fun z hz => ?_); (try rw [Int.tdiv_eq_ediv_of_nonneg (by omega)] at hz); rw [w64 (by omega) (by omega)] at hz; subst hz)
        | (refine zv (fun z hz => ?_); (try rw [Int.tmod_eq_emod_of_nonneg (by omega)] at hz); subst hz)
        | (refine ifs (fun h => ?_) (fun h => ?_) <;> (try (exfalso; first | omega | with_reducible contradiction | with_reducible exact h rfl))))
    all_goals (conv => whnf)
    all_goals exact fin_g (A := rgM _ ++ [⟨A.sn, _⟩, ⟨B.vn, _⟩, ⟨B.kn, _⟩, ⟨B.wn, _⟩]) (.grp takeG (.blk takeC (.blk takeC (.blk takeC (.blk takeC .nil))))) ⟨rfl, rfl⟩
theorem seal_no (sn : Nat) (x : StP) (B : VA) (v : VP) (s : ByteArray) (hf : x.failed ≠ 0) (hs : s.size = 48) :
    Fnc Tryz.prog 24 [pt B.vn, .string s] [stB sn x, vB B sn v] (Ret (.tuple #[.string ByteArray.empty, .int .i64 (failX x.failed)]) [stB sn x, vB B sn v]) := by
  have h1 := failed_any sn x
  have h2 := failX_ne hf
  generalize failX x.failed = e at *
  refine fn_intro Tryz.func24 (by kernel_rfl) ?_
  repeat' ((conv => whnf); first
      | refine call_gr h1 (.blk takeC .nil) ?_
      | refine ld1_lit ?_
      | refine ldN_lit ?_
      | refine nw (fun n => ?_)
      | refine bld ?_
      | refine st_lit rfl ?_
      | refine need (by first | rfl | omega) ?_
      | (refine wr (fun z hz => ?_); (try rw [Int.tdiv_eq_ediv_of_nonneg (by omega)] at hz); rw [w64 (by omega) (by omega)] at hz; subst hz)
      | (refine zv (fun z hz => ?_); (try rw [Int.tmod_eq_emod_of_nonneg (by omega)] at hz); subst hz)
      | (refine ifs (fun h => ?_) (fun h => ?_) <;> (try (exfalso; first | omega | with_reducible contradiction | with_reducible exact h rfl))))
  all_goals (conv => whnf)
  all_goals exact fin_g (A := [⟨sn, _⟩, ⟨B.vn, _⟩]) (.blk takeC (.blk takeC .nil)) ⟨rfl, rfl⟩
theorem write_no (sn : Nat) (x : StP) (B : VA) (v : VP) (d l : Int) (s : ByteArray) (hf : x.failed ≠ 0) (hs : s.size = 48) :
    Fnc Tryz.prog 22 [pt B.vn, .int .i64 d, .int .i64 l, .string s] [stB sn x, vB B sn v] (Ret (.int .i64 (failX x.failed)) [stB sn x, vB B sn v]) := by
  have h1 := seal_no sn x B v s hf hs
  have h2 := failX_ne hf
  generalize failX x.failed = e at *
  refine fn_intro Tryz.func22 (by kernel_rfl) ?_
  repeat' ((conv => whnf); first
      | refine call_gr h1 (.blk takeC (.blk takeC .nil)) ?_
      | refine ld1_lit ?_
      | refine ldN_lit ?_
      | refine nw (fun n => ?_)
      | refine bld ?_
      | refine st_lit rfl ?_
      | refine need (by first | rfl | omega) ?_
      | (refine wr (fun z hz => ?_); (try rw [Int.tdiv_eq_ediv_of_nonneg (by omega)] at hz); rw [w64 (by omega) (by omega)] at hz; subst hz)
      | (refine zv (fun z hz => ?_); (try rw [Int.tmod_eq_emod_of_nonneg (by omega)] at hz); subst hz)
      | (refine ifs (fun h => ?_) (fun h => ?_) <;> (try (exfalso; first | omega | with_reducible contradiction | with_reducible exact h rfl))))
  all_goals (conv => whnf)
  all_goals exact fin_g (A := [⟨sn, _⟩, ⟨B.vn, _⟩]) (.blk takeC (.blk takeC .nil)) ⟨rfl, rfl⟩
theorem read_no (sn : Nat) (x : StP) (B : VA) (v : VP) (d l : Int) (hf : x.failed ≠ 0) :
    Fnc Tryz.prog 17 [pt B.vn, .int .i64 d, .int .i64 l] [stB sn x, vB B sn v] (Ret (.tuple #[.string ByteArray.empty, .int .i64 (failX x.failed)]) [stB sn x, vB B sn v]) := by
  have h1 := get_no sn x d l hf
  have h2 := failX_ne hf
  generalize failX x.failed = e at *
  refine fn_intro Tryz.func17 (by kernel_rfl) ?_
  repeat' ((conv => whnf); first
      | refine call_gr h1 (.blk takeC .nil) ?_
      | refine ld1_lit ?_
      | refine ldN_lit ?_
      | refine nw (fun n => ?_)
      | refine bld ?_
      | refine st_lit rfl ?_
      | refine need (by first | rfl | omega) ?_
      | (refine wr (fun z hz => ?_); (try rw [Int.tdiv_eq_ediv_of_nonneg (by omega)] at hz); rw [w64 (by omega) (by omega)] at hz; subst hz)
      | (refine zv (fun z hz => ?_); (try rw [Int.tmod_eq_emod_of_nonneg (by omega)] at hz); subst hz)
      | (refine ifs (fun h => ?_) (fun h => ?_) <;> (try (exfalso; first | omega | with_reducible contradiction | with_reducible exact h rfl))))
  all_goals (conv => whnf)
  all_goals exact fin_g (A := [⟨sn, _⟩, ⟨B.vn, _⟩]) (.blk takeC (.blk takeC .nil)) ⟨rfl, rfl⟩
/-! Write, on any rig. -/
attribute [local irreducible] sealO putO stoR z64
theorem sealO_k {r : RigP} {V : StoV} {v : VP} {s : ByteArray} (h : rowOk v.x) (hs : s.size = 48) (he : (sealO r V v s).e = 0) : kdOk (sealO r V v s).s := by
  have h4 := numO_n (r := r) (V := V) h
  unfold sealO at he ⊢
  by_cases hz : (numO r V v.x).e = 0
  · rw [if_pos hz]
    obtain ⟨h5, h6⟩ := h4 hz
    unfold rowOk at h
    exact (layB_ok (by unfold numOk; omega) (.inl rfl) (cry_size _ _ _ hs)).1
  · rw [if_neg hz] at he; exact absurd he hz
theorem write_g0 (a : RigA) (r : RigP) (o : Orc) (A : StoA) (V : StoV) (B : VA) (v : VP) (d l : Int) (s : ByteArray) (hrn : V.rn = a.rn) (hrow : rowOk v.x) (hfl : V.failed = 0) (hk : ∀ i, by8 (v.k i)) (hs : s.size = 48) (hv : 0 ≤ v.n ∧ v.n < 1099511627776)
    (p : SeR) (ep : p = sealO r V v s) (hp : p.e ≠ 0) (hR : stoR ⟨A, p.V⟩ = stoR ⟨A, V⟩) :
    Fnc Tryz.prog 22 [pt B.vn, .int .i64 d, .int .i64 l, .string s] (sysM a r o A V ++ vM B A.sn v)
      (Ret (.int .i64 p.e) (sysM a p.r o A p.V ++ vM B A.sn p.v)) := by
  have h1 := seal_g a r A V B v s hrn hrow hfl hk hs hv
  rw [← ep] at h1
  clear ep
  rw [sys_open, sys_open, hR]
  obtain ⟨pr, pV, pv, ps, pe⟩ := p
  simp only at hp h1 ⊢
  unfold vM at h1 ⊢
  refine fn_intro Tryz.func22 (by kernel_rfl) ?_
  repeat' ((conv => whnf); first
      | refine call_gr h1 (.grp takeG (.blk takeC (.blk takeC (.blk takeC (.blk takeC .nil))))) ?_
      | refine ld1_lit ?_
      | refine ldN_lit ?_
      | refine nw (fun n => ?_)
      | refine bld ?_
      | refine st_lit rfl ?_
      | refine need (by first | rfl | omega) ?_
      | (refine wr (fun z hz => ?_); (try rw [Int.tdiv_eq_ediv_of_nonneg (by omega)] at hz); rw [w64 (by omega) (by omega)] at hz; subst hz)
      | (refine zv (fun z hz => ?_); (try rw [Int.tmod_eq_emod_of_nonneg (by omega)] at hz); subst hz)
      | (refine ifs (fun h => ?_) (fun h => ?_) <;> (try (exfalso; first | omega | with_reducible contradiction | with_reducible exact h rfl))))
  all_goals (conv => whnf)
  all_goals exact fin_g (A := rgM _ ++ (orcM _ ++ (stB A.sn _ :: (stoR _ ++ [⟨B.vn, _⟩, ⟨B.kn, _⟩, ⟨B.wn, _⟩])))) (.grp takeG (.grp takeG (.blk takeC (.grp takeG (.blk takeC (.blk takeC (.blk takeC .nil))))))) ⟨rfl, by simp only [List.append_assoc, List.cons_append]⟩
theorem write_g1 (a : RigA) (r : RigP) (o : Orc) (A : StoA) (V : StoV) (B : VA) (v : VP) (d l : Int) (s : ByteArray) (hrn : V.rn = a.rn) (hrow : rowOk v.x) (hfl : V.failed = 0) (hk : ∀ i, by8 (v.k i)) (hs : s.size = 48) (hv : 0 ≤ v.n ∧ v.n < 1099511627776)
    (p : SeR) (ep : p = sealO r V v s) (hp : p.e = 0) (hR : stoR ⟨A, p.V⟩ = stoR ⟨A, V⟩) (h : Aut.Can a o A p.V) (q : OutR) (eq : q = putO p.r o.ts p.V d l p.s) :
    Fnc Tryz.prog 22 [pt B.vn, .int .i64 d, .int .i64 l, .string s] (sysM a r o A V ++ vM B A.sn v)
      (RetO o q.ts (fun o' => sysM a q.r o' A (q.V.fl q.e) ++ vM B A.sn p.v) (.int .i64 q.e)) := by
  have h1 := seal_g a r A V B v s hrn hrow hfl hk hs hv
  have hkd := sealO_k (r := r) (V := V) hrow hs
  rw [← ep] at h1 hkd
  clear ep
  have h2 := setv a p.r o A p.V B p.v d l p.s h (hkd hp)
  rw [← eq] at h2
  clear eq
  rw [hp] at h1
  rw [sys_open, hR] at h2
  simp only [List.append_assoc, List.cons_append, List.nil_append] at h2
  rw [sys_open]
  unfold vM at h1 ⊢
  refine fn_intro Tryz.func22 (by kernel_rfl) ?_
  repeat' ((conv => whnf); first
      | refine call_gr h1 (.grp takeG (.blk takeC (.blk takeC (.blk takeC (.blk takeC .nil))))) ?_
      | refine call_go h2 (.grp takeG (.grp takeG (.blk takeC (.grp takeE (.blk takeC .nil))))) (fun o1 a1 a2 => ?_)
      | refine ld1_lit ?_
      | refine ldN_lit ?_
      | refine nw (fun n => ?_)
      | refine bld ?_
      | refine st_lit rfl ?_
      | refine need (by first | rfl | omega) ?_
      | (refine wr (fun z hz => ?_); (try rw [Int.tdiv_eq_ediv_of_nonneg (by omega)] at hz); rw [w64 (by omega) (by omega)] at hz; subst hz)
      | (refine zv (fun z hz => ?_); (try rw [Int.tmod_eq_emod_of_nonneg (by omega)] at hz); subst hz)
      | (refine ifs (fun h => ?_) (fun h => ?_) <;> (try (exfalso; first | omega | with_reducible contradiction | with_reducible exact h rfl))))
  all_goals (conv => whnf)
  all_goals exact fin_g (A := sysM _ _ o1 _ _ ++ [⟨B.vn, _⟩, ⟨B.kn, _⟩, ⟨B.wn, _⟩]) (.grp takeE (.blk takeC (.blk takeC (.blk takeC .nil)))) ⟨o1, a1, a2, rfl, rfl⟩
end Go.Proofs.YtohefdmfnllehaaGreat.Flt
/- A rig at whose j-th step something fails: the first Write fails. -/
namespace Go.Proofs.YtohefdmfnllehaaGreat.Flt
open Go Ev Sha Aes Orc Node Rec Chn Jrn Cau Sto Stg Ivs Ctr Aut Wld
open Rig (Fnc_takeR RigP Rg rgM z64 app_of RigA tick comes readR setRegR mayE)
open Tree (TreP TreA Tre treM TI Same getS setS nodeT readT downT dn dn0 dn_s dn_stop dnS dg putT)
set_option linter.unusedVariables false
set_option linter.unusedSimpArgs false
set_option maxRecDepth 100000
structure Flt (r : RigP) (j : Int) : Prop where
  down : r.down = false
  arm : r.arm = 0
  later : r.later = 0
  fault : r.fault = j
theorem flt_of {r : RigP} (h : Fine r) (j : Int) : Flt (RigP.wfault r j) j := ⟨h.down, h.arm, h.later, rfl⟩
theorem flt_1 {r : RigP} (h : Flt r 1) : (tick r).2 = some 10 := by
  obtain ⟨d0, d1, reg, down, calls, later, arm, fault, td, ti, ts, htd⟩ := r
  obtain ⟨h1, h2, h3, h4⟩ := h
  simp only at h1 h2 h3 h4
  subst h1; subst h2; subst h3; subst h4
  rfl
theorem flt_s {r : RigP} {j : Int} (h : Flt r j) (hj : 2 ≤ j ∧ j ≤ 1000) : (tick r).2 = none ∧ Flt (tick r).1 (j - 1) ∧ Same r (tick r).1 := by
  obtain ⟨d0, d1, reg, down, calls, later, arm, fault, td, ti, ts, htd⟩ := r
  obtain ⟨h1, h2, h3, h4⟩ := h
  simp only at h1 h2 h3 h4
  subst h1; subst h2; subst h3; subst h4
  have hw : IntKind.i64.wrap (fault - 1) = fault - 1 := w64 (by omega) (by omega)
  have hc : comes fault = (fault - 1, false) := by
    unfold comes
    rw [if_neg (by omega), hw, decide_eq_false (by omega)]
  have e : tick ⟨d0, d1, reg, false, calls, 0, 0, fault, td, ti, ts, htd⟩ = (⟨d0, d1, reg, false, IntKind.i64.wrap (calls + 1), 0, 0, fault - 1, td, ti, ts, htd⟩, none) := by
    simp [Rig.tick, Rig.tk, Rig.tk1, Rig.tk0, hc, show comes 0 = (0, false) from rfl]
  rw [e]
  exact ⟨rfl, ⟨rfl, rfl, rfl, rfl⟩, rfl, rfl⟩
theorem set_1 {r : RigP} {y : RgV} (h : Flt r 1) (hy : y.ok) : (setG r y).2 = 10 ∧ (setG r y).1 = (tick r).1 := by
  unfold setG
  rw [if_pos hy]
  unfold setRegR
  rw [if_neg (by simp [lay_size]), flt_1 h]
  exact ⟨rfl, rfl⟩
theorem set_s {r : RigP} {y : RgV} {j : Int} (h : Flt r j) (hj : 2 ≤ j ∧ j ≤ 1000) (hy : y.ok) : (setG r y).2 = 0 ∧ Flt (setG r y).1 (j - 1) ∧ Same r (setG r y).1 := by
  obtain ⟨h1, h2, h3⟩ := flt_s h hj
  unfold setG
  rw [if_pos hy]
  unfold setRegR
  rw [if_neg (by simp [lay_size]), h1]
  exact ⟨rfl, ⟨h2.down, h2.arm, h2.later, h2.fault⟩, h3.1, h3.2⟩
theorem node_no {r : RigP} {ts : List ByteArray} {t : TreP} {n : Nat} {want : Dg} (h : Flt r 1) (hk : getS t.known n = none) (hd : t.d = 0 ∨ t.d = 1) (hn : n < 63) : (nodeT r ts t n want).e = 10 := by
  have e : readR r t.d (161 + n : Nat) = ((tick r).1, ByteArray.empty, 10) := by
    unfold readR
    rw [mayE_ok hd (by omega) (by omega), if_neg (by simp), flt_1 h]
  unfold nodeT readT
  rw [hk, e]
  rfl
theorem node_s {r : RigP} {ts : List ByteArray} {t : TreP} {F f : Nat → ByteArray} {n : Nat} {want : Dg} {j : Int} (h : Flt r j) (hj : 2 ≤ j ∧ j ≤ 1000) (ht : TI r t F f) (hk : getS t.known n = none) (hn : n < 63) (hw : dl want = dl (D (p1 (F n)))) :
    (nodeT r ts t n want).e = 0 ∧ (nodeT r ts t n want).s = F n ∧ Flt (nodeT r ts t n want).r (j - 1) ∧ (nodeT r ts t n want).t.known = setS t.known n (F n) ∧ TI (nodeT r ts t n want).r (nodeT r ts t n want).t F f := by
  obtain ⟨h1, h2, h3⟩ := flt_s h hj
  have hd := ht.dev n hn hk
  have e : readR r t.d (161 + n : Nat) = ((tick r).1, F n, 0) := by
    unfold readR
    rw [mayE_ok ht.d (by omega) (by omega), if_neg (by simp), h1]
    simp only
    rw [h3.dev, show ((161 + n : Nat) : Int).toNat = 161 + n by omega, hd]
  have hz := ht.sz n hn
  have er : readT nodeD r ts t.d (161 + n : Nat) want = ((tick r).1, (nodeD ts (F n)).1, F n, 0) := by
    unfold readT
    rw [e]
    simp only
    rw [if_neg (by simp), if_pos (by rw [nodeD_ok hz]; exact hw.symm)]
  unfold nodeT
  rw [hk]
  simp only
  rw [er]
  simp only [if_true]
  refine ⟨trivial, trivial, h2, trivial, ?_⟩
  have h' := ht.same h3
  refine ⟨h'.d, h'.sz, h'.fsz, h'.root, h'.kid, fun m s hm hg => ?_, fun m hm hg => ?_, h'.sheet, h'.leaf⟩
  · simp only at hg
    rw [Tree.getS_set] at hg
    by_cases e : (m : Int) = n
    · rw [if_pos e] at hg
      have : m = n := by omega
      subst this
      exact (Option.some.inj hg).symm
    · rw [if_neg e] at hg; exact h'.known m s hm hg
  · simp only at hg
    rw [Tree.getS_set] at hg
    by_cases e : (m : Int) = n
    · rw [if_pos e] at hg; cases hg
    · rw [if_neg e] at hg; exact h'.dev m hm hg
theorem kid0 {r : RigP} {t : TreP} {F f : Nat → ByteArray} (h : TI r t F f) {n m : Nat} (hn : n < 63) (hm : m < 63) {s : Nat} (hs : s ≤ 1) (e : 2 * n + 1 + s = m) : dl (splitD (F n) s) = dl (D (p1 (F m))) := by
  rw [h.kid n s hn hs, e]
  unfold dg
  rw [if_pos hm]
/-- A way down on which something fails. -/
theorem down_flt {r : RigP} {ts : List ByteArray} {t : TreP} {F f : Nat → ByteArray} {j : Int} (h : Flt r j) (hj : 1 ≤ j ∧ j ≤ 3) (ht : TI r t F f) (hk : t.known = []) : (downT r ts t 0).e = 10 := by
  have hk' : ∀ n : Int, getS t.known n = none := fun n => by rw [hk]; rfl
  have a5 : at_ 0 (5 + 1) = 0 := by decide +kernel
  have a4 : at_ 0 (4 + 1) = 1 := by decide +kernel
  have a3 : at_ 0 (3 + 1) = 3 := by decide +kernel
  have s5 : side 0 5 = 0 := by decide +kernel
  have s4 : side 0 4 = 0 := by decide +kernel
  have stop : ∀ k, k ≤ 6 → (dn 0 (dn0 r ts t) k).e = 10 → (downT r ts t 0).e = 10 := fun k hk6 h10 => by
    have := dn_stop (leaf := 0) (p := dn0 r ts t) (k := k) (by rw [h10]; decide) (6 - k)
    rw [show k + (6 - k) = 6 by omega] at this
    unfold downT
    rw [this, h10]
  have e1 : dn 0 (dn0 r ts t) 1 = dnS 0 5 (dn0 r ts t) := dn_s (k := 0) rfl
  by_cases j1 : j = 1
  · subst j1
    refine stop 1 (by omega) ?_
    rw [e1]
    unfold dnS
    simp only
    rw [a5]
    exact node_no h (hk' _) ht.d (by omega)
  have n1 := node_s (ts := ts) (n := 0) (want := t.root) h (by omega) ht (hk' _) (by omega) (by rw [ht.root])
  obtain ⟨p, ep⟩ : ∃ p, p = dn 0 (dn0 r ts t) 1 := ⟨_, rfl⟩
  have hp1 : p.e = 0 ∧ Flt p.r (j - 1) ∧ p.t.known = setS t.known 0 (F 0) ∧ TI p.r p.t F f ∧ dl p.sum = dl (D (p1 (F 1))) := by
    rw [ep, e1]
    unfold dnS
    simp only
    rw [a5, s5]
    obtain ⟨x1, x2, x3, x4, x5⟩ := n1
    refine ⟨x1, x3, x4, x5, ?_⟩
    show dl (if (nodeT r ts t 0 t.root).e = 0 then splitD (nodeT r ts t 0 t.root).s 0 else t.root) = _
    rw [if_pos x1, x2]
    exact kid0 ht (by omega) (by omega) (by omega) rfl
  have e2 : dn 0 (dn0 r ts t) 2 = dnS 0 4 p := by rw [dn_s (k := 1) (by rw [← ep]; exact hp1.1), ← ep]
  obtain ⟨q1, q2, q3, q4, q5⟩ := hp1
  have hpk : ∀ n : Int, n ≠ 0 → getS p.t.known n = none := fun n hn => by rw [q3, Tree.getS_set, if_neg hn]; exact hk' n
  by_cases j2 : j = 2
  · subst j2
    refine stop 2 (by omega) ?_
    rw [e2]
    unfold dnS
    simp only
    rw [a4]
    exact node_no q2 (hpk _ (by decide)) q4.d (by omega)
  obtain rfl : j = 3 := by omega
  have n2 := node_s (ts := p.ts) (n := 1) (want := p.sum) q2 (by omega) q4 (hpk _ (by decide)) (by omega) q5
  obtain ⟨p2, ep2⟩ : ∃ p, p = dn 0 (dn0 r ts t) 2 := ⟨_, rfl⟩
  have hp2 : p2.e = 0 ∧ Flt p2.r 1 ∧ p2.t.known = setS p.t.known 1 (F 1) ∧ TI p2.r p2.t F f := by
    rw [ep2, e2]
    unfold dnS
    simp only
    rw [a4]
    obtain ⟨x1, x2, x3, x4, x5⟩ := n2
    exact ⟨x1, x3, x4, x5⟩
  have e3 : dn 0 (dn0 r ts t) 3 = dnS 0 3 p2 := by rw [dn_s (k := 2) (by rw [← ep2]; exact hp2.1), ← ep2]
  refine stop 3 (by omega) ?_
  rw [e3]
  unfold dnS
  simp only
  rw [a3]
  exact node_no hp2.2.1 (by rw [hp2.2.2.1, Tree.getS_set, if_neg (by decide)]; exact hpk _ (by decide)) hp2.2.2.2.d (by omega)
section
variable {a : RigA} {A : StoA} {B : VA} {on : Nat} {S : Sy} {f0 f1 : Nat → ByteArray} {m b : Nat}
theorem need100 {x : RwP} (h : x = ⟨0, 0, 100⟩) : needN x = 16 := by subst h; decide
theorem raise_flt {r : RigP} {V : StoV} {x : RwP} (h : VOk r V x) (hx : x = ⟨0, 0, 100⟩) {r' : RigP} :
    raiseG r' V 16 = (if (setG r' (V.is.to 16)).2 = 0 then ⟨(setG r' (V.is.to 16)).1, { V with is := V.is.to 16, next := V.next.to 16 }, 0⟩ else ⟨(setG r' (V.is.to 16)).1, V.fl (setG r' (V.is.to 16)).2, (setG r' (V.is.to 16)).2⟩) := by
  unfold raiseG
  rw [if_pos]
  have := h.top
  rw [hx] at this
  unfold ivOk
  rw [this]; decide
theorem num_flt {r' : RigP} {V : StoV} : numO r' V ⟨0, 0, 100⟩ = (if (raiseG r' V 16).e = 0 then ⟨(raiseG r' V 16).r, (raiseG r' V 16).V, ⟨0 + 1, 16, 100⟩, 0, 0⟩ else ⟨(raiseG r' V 16).r, (raiseG r' V 16).V, ⟨0, 0, 100⟩, 0, (raiseG r' V 16).e⟩) := by
  unfold numO
  rw [need100 rfl, if_neg (by decide), if_neg (by decide)]
/-- The first Write on a rig at whose j-th step something fails. -/
theorem write_flt {r : RigP} {o : Orc} {V : StoV} {v : VP} {j : Int} (h : WI a A on ⟨r, o, V, v⟩ f0 f1 m b) (hx : v.x = ⟨0, 0, 100⟩) (hj : 1 ≤ j ∧ j ≤ 4) (hk : V.t0.known = []) (hs0 : V.t0.sheet = []) (hb : b ≤ 1099511610000) (hm : m ≤ 1000) {s : ByteArray} (hs : s.size = 48) :
    Fnc Tryz.prog 22 [pt B.vn, .int .i64 0, .int .i64 0, .string s] (syM a A B ⟨RigP.wfault r j, o, V, v⟩) (AQ a A B (fun S' => S'.V.failed = 10) (.int .i64 10)) := by
  have hf := flt_of h.vok.fine j
  have hrow : rowOk v.x := h.vok.row
  have hV0 : V.failed = 0 := h.vok.ok
  have hV1 : (V.fl 10).failed = 10 := by unfold StoV.fl failE; rw [if_pos (by decide)]
  have hok : (V.is.to 16).ok := to_ok h.vok.reg (by have := h.vok.top; simp only at this; rw [hx] at this; unfold ivOk; rw [this]; decide)
  have hc := h.cnt
  simp only at hc
  obtain ⟨r', er⟩ : ∃ r', r' = RigP.wfault r j := ⟨_, rfl⟩
  have hsame : Same r r' := by rw [er]; exact ⟨rfl, rfl⟩
  rw [← er] at hf ⊢
  have e1 := raise_flt h.vok hx (r' := r')
  have e2 := num_flt (r' := r') (V := V)
  rw [← hx] at e2
  obtain ⟨p, ep⟩ : ∃ p, p = sealO r' V v s := ⟨_, rfl⟩
  have hcan := h.can hb
  by_cases j1 : j = 1
  · subst j1
    have h1 := (set_1 hf hok).1
    rw [h1, if_neg (by decide)] at e1
    rw [e1] at e2
    simp only at e2
    rw [if_neg (by decide)] at e2
    have hp : p.e = 10 ∧ p.V = V.fl 10 := by
      rw [ep]; unfold sealO; rw [e2]; simp only; rw [if_neg (by decide)]; exact ⟨rfl, rfl⟩
    have hw := write_g0 a r' o A V B v 0 0 s hcan.ok.rn hrow hV0 h.key hs ⟨hc.1, by omega⟩ p ep (by rw [hp.1]; decide) (by rw [hp.2]; exact stoR_fl A V 10)
    refine Fnc_mono hw ?_
    rintro e M ⟨h2, h3⟩
    exact ⟨⟨p.r, o, p.V, p.v⟩, by show p.V.failed = 10; rw [hp.2]; exact hV1, by rw [h2, hp.1], h3⟩
  · obtain ⟨h1, h2, h3⟩ := set_s hf (by omega) hok
    rw [h1, if_pos rfl] at e1
    rw [e1] at e2
    simp only at e2
    rw [if_pos trivial] at e2
    have hp : p.e = 0 ∧ p.V = { V with is := V.is.to 16, next := V.next.to 16 } ∧ p.r = (setG r' (V.is.to 16)).1 := by
      rw [ep]; unfold sealO; rw [e2]; simp only; rw [if_pos trivial]; exact ⟨rfl, rfl, rfl⟩
    obtain ⟨F, ht⟩ := h.t0
    simp only at ht
    have ht' : TI p.r V.t0 F f0 := by rw [hp.2.2]; exact (ht.same hsame).same h3
    have hd := down_flt (ts := o.ts) (r := p.r) (j := j - 1) (by rw [hp.2.2]; exact h2) (by omega) ht' hk
    have hpt : (putT p.r o.ts V.t0 0 p.s).e = 10 := by unfold putT; rw [if_pos (by rw [hd]; decide)]; exact hd
    obtain ⟨q, eq⟩ : ∃ q, q = putO p.r o.ts p.V 0 0 p.s := ⟨_, rfl⟩
    have hkd : kdOk p.s := by rw [ep]; exact sealO_k hrow hs (by rw [← ep]; exact hp.1)
    have hq : q.e = 10 ∧ q.V.failed = 0 := by
      have := putO_in (r := p.r) (ts := o.ts) (V := p.V) (d := 0) (l := 0) (s := p.s) (.inl rfl) (by omega) hkd.1 (by rw [hp.2.1]; show V.t0.sheet.length ≤ 57; rw [hs0]; decide)
      rw [eq]
      have e0 : ((0 : Nat) : Int) = 0 := rfl
      rw [e0] at this
      rw [this, hp.2.1]
      exact ⟨hpt, hV0⟩
    have hcan' : Aut.Can a o A p.V := by
      rw [hp.2.1]; exact ⟨sok_to hcan.ok rfl rfl, hcan.att, hcan.fl, hcan.len⟩
    have hw := write_g1 a r' o A V B v 0 0 s hcan.ok.rn hrow hV0 h.key hs ⟨hc.1, by omega⟩ p ep hp.1 (by rw [hp.2.1]; rfl) hcan' q eq
    refine Fnc_mono hw ?_
    rintro e M ⟨o', g1, g2, g3, g4⟩
    exact ⟨⟨q.r, o', q.V.fl q.e, p.v⟩, by show (q.V.fl q.e).failed = 10; rw [hq.1]; unfold StoV.fl failE; rw [if_pos (by decide)], by rw [g4, hq.1], g3⟩
/-! A vault on a store that failed. -/
theorem f_write (h : S.V.failed = 10) (d l : Int) {s : ByteArray} (hs : s.size = 48) : Fnc Tryz.prog 22 [pt B.vn, .int .i64 d, .int .i64 l, .string s] (syM a A B S) (Ret (.int .i64 18) (syM a A B S)) := by
  have h1 := write_no A.sn (Sto.c ⟨A, S.V⟩) B S.v d l s (by show S.V.failed ≠ 0; rw [h]; decide) hs
  rw [show failX (Sto.c ⟨A, S.V⟩).failed = 18 by show failX S.V.failed = 18; rw [h]; rfl] at h1
  unfold syM sysM vM
  exact Bgn.Fnc_keep h1 (.blk takeC (.blk takeC .nil))
theorem f_seal (h : S.V.failed = 10) {s : ByteArray} (hs : s.size = 48) : Fnc Tryz.prog 24 [pt B.vn, .string s] (syM a A B S) (Ret (.tuple #[.string ByteArray.empty, .int .i64 18]) (syM a A B S)) := by
  have h1 := seal_no A.sn (Sto.c ⟨A, S.V⟩) B S.v s (by show S.V.failed ≠ 0; rw [h]; decide) hs
  rw [show failX (Sto.c ⟨A, S.V⟩).failed = 18 by show failX S.V.failed = 18; rw [h]; rfl] at h1
  unfold syM sysM vM
  exact Bgn.Fnc_keep h1 (.blk takeC (.blk takeC .nil))
theorem f_read (h : S.V.failed = 10) (d l : Int) : Fnc Tryz.prog 17 [pt B.vn, .int .i64 d, .int .i64 l] (syM a A B S) (Ret (.tuple #[.string ByteArray.empty, .int .i64 18]) (syM a A B S)) := by
  have h1 := read_no A.sn (Sto.c ⟨A, S.V⟩) B S.v d l (by show S.V.failed ≠ 0; rw [h]; decide)
  rw [show failX (Sto.c ⟨A, S.V⟩).failed = 18 by show failX S.V.failed = 18; rw [h]; rfl] at h1
  unfold syM sysM vM
  exact Bgn.Fnc_keep h1 (.blk takeC (.blk takeC .nil))
theorem f_commit (h : S.V.failed = 10) : Fnc Tryz.prog 40 [pt A.sn] (syM a A B S) (Ret (.int .i64 18) (syM a A B S)) := by
  have h1 := commit_no A.sn (Sto.c ⟨A, S.V⟩) (by show S.V.failed ≠ 0; rw [h]; decide)
  rw [show failX (Sto.c ⟨A, S.V⟩).failed = 18 by show failX S.V.failed = 18; rw [h]; rfl] at h1
  unfold syM sysM vM
  exact Bgn.Fnc_keep h1 (.blk takeC .nil)
theorem f_failed (h : S.V.failed = 10) : Fnc Tryz.prog 34 [pt A.sn] (syM a A B S) (Ret (.int .i64 18) (syM a A B S)) := by
  have h1 := failed_any A.sn (Sto.c ⟨A, S.V⟩)
  rw [show failX (Sto.c ⟨A, S.V⟩).failed = 18 by show failX S.V.failed = 18; rw [h]; rfl] at h1
  unfold syM sysM vM
  exact Bgn.Fnc_keep h1 (.blk takeC .nil)
end
end Go.Proofs.YtohefdmfnllehaaGreat.Flt
/- Behind a step that fails nothing is sealed: the walk. -/
namespace Go.Proofs.YtohefdmfnllehaaGreat.Flt
open Go Ev Sha Aes Orc Node Rec Chn Jrn Cau Sto Stg Ivs Ctr Aut Wld Bgn
open Rig (Fnc_takeR RigP Rg rgM z64 app_of RigA r0)
open Tree (TreP TreA Tre treM TI Same updB)
set_option linter.unusedVariables false
set_option linter.unusedSimpArgs false
set_option maxRecDepth 100000
theorem full_size {s : ByteArray} (h : s.size ≤ 48) : (Be.full s 48).size = 48 := by
  unfold Be.full
  split
  · omega
  · rw [ByteArray.size_append, Ev.str_size, List.length_replicate]; omega
theorem data_ (s : ByteArray) (h : s.size ≤ 48) : Fnc Tryz.prog 39 [.string s] [] (Ret (.string (Be.full s 48)) []) := by
  have h1 := Be.full01 s 48 (by omega) (by omega)
  refine fn_intro Tryz.func39 (by kernel_rfl) ?_
  repeat' ((conv => whnf); first
      | refine call_val h1 ?_
      | refine ld1_lit ?_
      | refine ldN_lit ?_
      | refine nw (fun n => ?_)
      | refine bld ?_
      | refine st_lit rfl ?_
      | refine need (by first | rfl | omega) ?_
      | (refine wr (fun z hz => ?_); (try rw [Int.tdiv_eq_ediv_of_nonneg (by omega)] at hz); rw [w64 (by omega) (by omega)] at hz; subst hz)
      | (refine zv (fun z hz => ?_); (try rw [Int.tmod_eq_emod_of_nonneg (by omega)] at hz); subst hz)
      | (refine ifs (fun h => ?_) (fun h => ?_) <;> (try (exfalso; first | omega | with_reducible contradiction | with_reducible exact h rfl))))
  all_goals (conv => whnf)
  all_goals exact fin_nil ⟨rfl, rfl⟩
attribute [local irreducible] wdC syM z64 updB stC Sto.c rgM stoR Be.full fmR sup0 fmT fmV0 keyT Bgn.keyS mmk
theorem w_fault (a : RigA) (A : StoA) (B : VA) (r : RigP) (o : Orc) (V : StoV) (v : VP) (n : Int) (h : 1 ≤ n ∧ n ≤ 1099511627776) : Fnc Tryz.prog 38 [pt a.rn, .int .i64 n] (syM a A B ⟨r, o, V, v⟩) (Ret (.int .i64 0) (syM a A B ⟨RigP.wfault r n, o, V, v⟩)) := by
  have h1 := Fnc_more (B := orcM o ++ (stB A.sn (Sto.c ⟨A, V⟩) :: stoR ⟨A, V⟩) ++ vM B A.sn v) (fault_ a r n h)
  unfold syM sysM
  rw [List.append_assoc, List.append_assoc]
  rw [← List.append_assoc (orcM o)]
  refine Fnc_mono h1 ?_
  rintro e M ⟨A', h2, h3, h4⟩
  subst h2; subst h4
  exact ⟨h3, by simp only [List.append_assoc]⟩
theorem afails_no (n : Int) (hn : 0 ≤ n ∧ n ≤ 255) (s : ByteArray) (hs : ¬ s.size ≤ 48) : Fnc Tryz.prog 6 [.int .u8 n, .string s] [] (Ret (.bool true) []) := by
  have hb := begunF 100 (by decide)
  have ha := awake_
  refine fn_intro Tryz.func6 (by kernel_rfl) ?_
  repeat' ((conv => whnf); first
      | (refine call_g hb .nil (fun e A' hq => ?_); obtain ⟨wn, a, A, B, S, f, g, w0, x0, n0, z0, v0, y0, y1, e0, m0⟩ := hq; subst e0; subst m0)
      | refine call_val ha ?_
      | refine ld1_lit ?_
      | refine ldN_lit ?_
      | refine nw (fun n => ?_)
      | refine bld ?_
      | refine st_lit rfl ?_
      | refine need (by first | rfl | omega) ?_
      | (refine wr (fun z hz => ?_); (try rw [Int.tdiv_eq_ediv_of_nonneg (by omega)] at hz); rw [w64 (by omega) (by omega)] at hz; subst hz)
      | (refine zv (fun z hz => ?_); (try rw [Int.tmod_eq_emod_of_nonneg (by omega)] at hz); subst hz)
      | (refine ifs (fun h => ?_) (fun h => ?_) <;> (try (exfalso; first | omega | with_reducible contradiction | with_reducible exact h rfl))))
  all_goals (conv => whnf)
  all_goals exact fin_pick (A' := []) .nil ⟨rfl, rfl⟩
theorem afails (n : Int) (hn : 0 ≤ n ∧ n ≤ 255) (s : ByteArray) (hs : s.size ≤ 48) : Fnc Tryz.prog 6 [.int .u8 n, .string s] [] (Ret (.bool true) []) := by
  have hb := begunF 100 (by decide)
  have ha := awake_
  have hd := data_ s hs
  have hz := full_size hs
  obtain ⟨b, eb⟩ : ∃ b, b = Be.full s 48 := ⟨_, rfl⟩
  rw [← eb] at hd hz
  clear eb
  refine fn_intro Tryz.func6 (by kernel_rfl) ?_
  repeat' ((conv => whnf); first
      | (refine call_g hb .nil (fun e A' hq => ?_); obtain ⟨wn, a, A, B, S, f, g, w0, x0, n0, z0, v0, y0, y1, e0, m0⟩ := hq; subst e0; subst m0)
      | refine call_val ha ?_
      | refine ld1_row wdC_0 ?_
      | refine ld1_lit ?_
      | refine ldN_lit ?_
      | refine nw (fun n => ?_)
      | refine bld ?_
      | refine st_lit rfl ?_
      | refine need (by first | rfl | omega) ?_
      | (refine wr (fun z hz => ?_); (try rw [Int.tdiv_eq_ediv_of_nonneg (by omega)] at hz); rw [w64 (by omega) (by omega)] at hz; subst hz)
      | (refine zv (fun z hz => ?_); (try rw [Int.tmod_eq_emod_of_nonneg (by omega)] at hz); subst hz)
      | (refine ifs (fun h => ?_) (fun h => ?_) <;> (try (exfalso; first | omega | with_reducible contradiction | with_reducible exact h rfl))))
  all_goals (conv => whnf)
  obtain ⟨r, o, V, v⟩ := S
  simp only at x0 n0 z0 v0 w0
  have hfl := w_fault a A B r o V v (n % 4 + 1) (by omega)
  have hw0 := write_flt (B := B) (j := n % 4 + 1) w0 (by rw [v0]) (by omega) (by rw [z0]; unfold fmV0; rfl) (by rw [z0]; unfold fmV0; rfl) (by omega) (by omega) hz
  repeat' ((conv => whnf); first
      | refine call_gr hfl (.one takeE) ?_
      | refine ld1_lit ?_
      | refine ldN_lit ?_
      | refine nw (fun n => ?_)
      | refine bld ?_
      | refine st_lit rfl ?_
      | refine need (by first | rfl | omega) ?_
      | (refine wr (fun z hz => ?_); (try rw [Int.tdiv_eq_ediv_of_nonneg (by omega)] at hz); rw [w64 (by omega) (by omega)] at hz; subst hz)
      | (refine zv (fun z hz => ?_); (try rw [Int.tmod_eq_emod_of_nonneg (by omega)] at hz); subst hz)
      | (refine ifs (fun h => ?_) (fun h => ?_) <;> (try (exfalso; first | omega | with_reducible contradiction | with_reducible exact h rfl))))
  all_goals (conv => whnf)
  obtain ⟨S0, e0⟩ : ∃ S0 : Sy, S0 = ⟨RigP.wfault r (n % 4 + 1), o, V, v⟩ := ⟨_, rfl⟩
  rw [← e0] at hw0
  refine loop_rule [6] (fun vs M m => ∃ (k : Nat) (S1 : Sy), vs = [.int .i64 k] ∧ k ≤ 8 ∧ m = 8 - k ∧ (if k = 0 then S1 = S0 else S1.V.failed = 10) ∧ M = wdB wn a.rn o.on (some ⟨B.vn, 0, none⟩) f g :: syM a A B S1) rfl ?_ ?_
  · rw [← e0]
    exact fin_g (A := wdB wn a.rn o.on _ f g :: syM a A B S0) (.blk takeC (.one takeE)) ⟨_, 0, S0, rfl, by omega, rfl, by rw [if_pos rfl], rfl⟩
  rintro vs junk M' m ⟨k, S1, rfl, hk, rfl, hP, rfl⟩
  by_cases hk8 : k < 8
  · skip
    have hcall : Fnc Tryz.prog 22 [pt B.vn, .int .i64 0, .int .i64 k, .string b] (syM a A B S1) (fun e M => ∃ (S2 : Sy) (c : Int), S2.V.failed = 10 ∧ e = .returned (.int .i64 c) ∧ M = syM a A B S2) := by
      by_cases h0 : k = 0
      · rw [if_pos h0] at hP
        subst hP; subst h0
        exact Fnc_mono hw0 fun e M ⟨S2, h1, h2, h3⟩ => ⟨S2, 10, h1, h2, h3⟩
      · rw [if_neg h0] at hP
        exact Fnc_mono (f_write hP 0 k hz) fun e M ⟨h2, h3⟩ => ⟨S1, 18, hP, h2, h3⟩
    repeat' ((conv => whnf); first
        | refine ld1_row wdC_2 ?_
        | refine call_val hd ?_
        | refine draw_any 8 [(0, true), (1, true), (2, true), (4, true), (5, true), (3, true), (6, false), (7, false)] [⟨wn, _⟩] rfl (by kernel_rfl) (kept_of (.cons takeC .nil) ?_)
        | refine kept_of (.cons takeC .nil) ?_
        | refine fld1_row (n := wn) wdC_2 ?_
        | (refine call_g hcall (.one takeE) (fun e A' hq => ?_); obtain ⟨S2, c, g1, g2, g3⟩ := hq; subst g2; subst g3)
        | refine call_gr (w_store (a := a) (A := A) (B := B) (S := S2)) (.one takeE) ?_
        | refine call_gr (f_commit (a := a) (A := A) (B := B) (S := S2) g1) (.one takeE) ?_
        | refine ld1_lit ?_
        | refine ldN_lit ?_
        | refine nw (fun n => ?_)
        | refine bld ?_
        | refine st_lit rfl ?_
        | refine need (by first | rfl | omega) ?_
        | (refine wr (fun z hz => ?_); (try rw [Int.tdiv_eq_ediv_of_nonneg (by omega)] at hz); rw [w64 (by omega) (by omega)] at hz; subst hz)
        | (refine zv (fun z hz => ?_); (try rw [Int.tmod_eq_emod_of_nonneg (by omega)] at hz); subst hz)
        | (refine ifs (fun h => ?_) (fun h => ?_) <;> (try (exfalso; first | omega | with_reducible contradiction | with_reducible exact h rfl))))
    all_goals (conv => whnf)
    all_goals exact ⟨rfl, fin_g (A := wdB wn a.rn o.on _ f g :: syM a A B S2) (.blk takeC (.one takeE)) ⟨8 - (k + 1), by omega, k + 1, S2, rfl, by omega, rfl, by rw [if_neg (by omega)]; exact g1, rfl⟩⟩
  obtain rfl : k = 8 := by omega
  rw [if_neg (by decide)] at hP
  repeat' ((conv => whnf); first
      | refine ld1_row wdC_2 ?_
      | refine call_val hd ?_
      | refine draw_any 13 [(0, true), (1, true), (2, true), (4, true), (3, true), (5, false), (6, false), (7, true), (8, true), (9, true), (10, true), (11, true)] [⟨wn, _⟩] rfl (by kernel_rfl) (kept_of (.cons takeC .nil) ?_)
      | refine kept_of (.cons takeC .nil) ?_
      | refine fld1_row (n := wn) wdC_2 ?_
      | refine call_gr (w_store (a := a) (A := A) (B := B) (S := S1)) (.one takeE) ?_
      | refine call_gr (f_failed (a := a) (A := A) (B := B) (S := S1) hP) (.one takeE) ?_
      | refine call_gr (w_sealed (a := a) (A := A) (B := B) (S := S1)) (.one takeE) ?_
      | refine call_gr (f_seal (a := a) (A := A) (B := B) (S := S1) hP hz) (.one takeE) ?_
      | refine call_gr (f_read (a := a) (A := A) (B := B) (S := S1) hP 0 0) (.one takeE) ?_
      | refine ld1_lit ?_
      | refine ldN_lit ?_
      | refine nw (fun n => ?_)
      | refine bld ?_
      | refine st_lit rfl ?_
      | refine need (by first | rfl | omega) ?_
      | (refine wr (fun z hz => ?_); (try rw [Int.tdiv_eq_ediv_of_nonneg (by omega)] at hz); rw [w64 (by omega) (by omega)] at hz; subst hz)
      | (refine zv (fun z hz => ?_); (try rw [Int.tmod_eq_emod_of_nonneg (by omega)] at hz); subst hz)
      | (refine ifs (fun h => ?_) (fun h => ?_) <;> (try (exfalso; first | omega | with_reducible contradiction | with_reducible exact h rfl))))
  all_goals (conv => whnf)
  all_goals exact fin_pick (A' := []) .nil ⟨rfl, rfl⟩
theorem afails_all (n : Int) (hn : 0 ≤ n ∧ n ≤ 255) (s : ByteArray) : Fnc Tryz.prog 6 [.int .u8 n, .string s] [] (Ret (.bool true) []) := by
  by_cases hs : s.size ≤ 48
  · exact afails n hn s hs
  · exact afails_no n hn s hs
end Go.Proofs.YtohefdmfnllehaaGreat.Flt
