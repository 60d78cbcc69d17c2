/- A vault: made, its numbers. -/
import Derived.Test.YtohefdmfnllehaaGreatAf19
namespace Go.Proofs.YtohefdmfnllehaaGreat.Aut
open Go Ev Sha Aes Orc Node Rec Chn Jrn Cau Sto Ivs Ctr
open Rig (Fnc_takeR RigP Rg rgM z64 app_of RigA)
open Tree (TreP TreA Tre treM)
set_option linter.unusedVariables false
set_option linter.unusedSimpArgs false
set_option maxRecDepth 100000
structure VA where
  vn : Nat
  kn : Nat
  wn : Nat
structure VP where
  k : Nat → Int
  x : RwP
  n : Int
abbrev vB (B : VA) (sn : Nat) (v : VP) : Blk := ⟨B.vn, .cells [pt sn, pt B.kn, pt B.wn, .int .i64 v.n] 138⟩
def vM (B : VA) (sn : Nat) (v : VP) : List Blk := [vB B sn v, kB B.kn v.k, rwB B.wn v.x]
theorem anew_no (key : ByteArray) (h : ¬ key.size = 32) : Fnc Tryz.prog 82 [.string key] [] (Ret (.tuple #[.pointer none, .int .i64 2]) []) := by
  refine fn_intro Tryz.func82 (by kernel_rfl) ?_
  repeat' ((conv => whnf); first
      | refine ld1_lit ?_
      | refine ldN_lit ?_
      | refine nw (fun n => ?_)
      | refine bld ?_
      | refine st_lit rfl ?_
      | refine need (by first | rfl | omega) ?_
      | (refine wr (fun z hz => ?_); (try rw [Int.tdiv_eq_ediv_of_nonneg (by omega)] at hz); rw [w64 (by omega) (by omega)] at hz; subst hz)
      | (refine zv (fun z hz => ?_); (try rw [Int.tmod_eq_emod_of_nonneg (by omega)] at hz); subst hz)
      | (refine ifs (fun h => ?_) (fun h => ?_) <;> (try (exfalso; first | omega | with_reducible contradiction | with_reducible exact h rfl))))
  all_goals (conv => whnf)
  all_goals exact fin_nil ⟨rfl, rfl⟩
theorem new_nil (key : ByteArray) : Fnc Tryz.prog 25 [.pointer none, .string key] [] (Ret (.tuple #[.pointer none, .int .i64 1]) []) := by
  refine fn_intro Tryz.func25 (by kernel_rfl) ?_
  repeat' ((conv => whnf); first
      | refine ld1_lit ?_
      | refine ldN_lit ?_
      | refine nw (fun n => ?_)
      | refine bld ?_
      | refine st_lit rfl ?_
      | refine need (by first | rfl | omega) ?_
      | (refine wr (fun z hz => ?_); (try rw [Int.tdiv_eq_ediv_of_nonneg (by omega)] at hz); rw [w64 (by omega) (by omega)] at hz; subst hz)
      | (refine zv (fun z hz => ?_); (try rw [Int.tmod_eq_emod_of_nonneg (by omega)] at hz); subst hz)
      | (refine ifs (fun h => ?_) (fun h => ?_) <;> (try (exfalso; first | omega | with_reducible contradiction | with_reducible exact h rfl))))
  all_goals (conv => whnf)
  all_goals exact fin_nil ⟨rfl, rfl⟩
theorem new_key (sn : Nat) (key : ByteArray) (h : ¬ key.size = 32) : Fnc Tryz.prog 25 [pt sn, .string key] [] (Ret (.tuple #[.pointer none, .int .i64 2]) []) := by
  have h1 := anew_no key h
  refine fn_intro Tryz.func25 (by kernel_rfl) ?_
  repeat' ((conv => whnf); first
      | refine call_val h1 ?_
      | refine ld1_lit ?_
      | refine ldN_lit ?_
      | refine nw (fun n => ?_)
      | refine bld ?_
      | refine st_lit rfl ?_
      | refine need (by first | rfl | omega) ?_
      | (refine wr (fun z hz => ?_); (try rw [Int.tdiv_eq_ediv_of_nonneg (by omega)] at hz); rw [w64 (by omega) (by omega)] at hz; subst hz)
      | (refine zv (fun z hz => ?_); (try rw [Int.tmod_eq_emod_of_nonneg (by omega)] at hz); subst hz)
      | (refine ifs (fun h => ?_) (fun h => ?_) <;> (try (exfalso; first | omega | with_reducible contradiction | with_reducible exact h rfl))))
  all_goals (conv => whnf)
  all_goals exact fin_nil ⟨rfl, rfl⟩
theorem getOK_of : ∀ {l : List Value} {n : Nat} {v : Value} {k : Value → Prop}, l[n]? = some v → k v → getOK l n k
  | [], n, v, k, h, _ => by cases h
  | a :: t, 0, v, k, h, hk => by
    have : a = v := by simpa using h
    subst this; exact hk
  | a :: t, n + 1, v, k, h, hk => getOK_of (l := t) (n := n) (by simpa using h) hk
theorem regC_iv {x : RgV} : (regC x)[65]? = some (.int .i64 x.iv) := rfl
attribute [local irreducible] dgV stC regC keyT
theorem new_ok (sn : Nat) (x : StP) (key : ByteArray) (h : key.size = 32) (hi : 1 ≤ x.g2 ∧ x.g2 ≤ 1099511627776 ∧ 0 ≤ x.is.iv ∧ x.is.iv ≤ x.g2) :
    Fnc Tryz.prog 25 [pt sn, .string key] [stB sn x] (fun e A => ∃ B : VA, e = .returned (.tuple #[pt B.vn, .int .i64 0]) ∧ A = vM B sn ⟨keyT key, ⟨x.is.iv, x.is.iv, x.g2⟩, 0⟩ ++ [stB sn x]) := by
  have h1 := new_ key h
  have h2 := reg_ sn x
  have hiv := regC_iv (x := x.is)
  obtain ⟨rl, erl⟩ : ∃ l, l = regC x.is := ⟨_, rfl⟩
  rw [← erl] at h2 hiv
  clear erl
  have h3 := geom_ sn x
  have h4 := inew x.is.iv x.g2 hi
  refine fn_intro Tryz.func25 (by kernel_rfl) ?_
  repeat' ((conv => whnf); first
      | (refine call_g h1 .nil (fun e A' hq => ?_); obtain ⟨kn, h5, h6⟩ := hq; subst h5; subst h6)
      | refine call_gr h2 (.blk takeC .nil) ?_
      | refine getOK_of hiv ?_
      | refine call_gr h3 (.blk takeC .nil) ?_
      | (refine call_g h4 .nil (fun e A' hq => ?_); obtain ⟨wn, h5, h6⟩ := hq; subst h5; subst h6)
      | refine ld1_lit ?_
      | refine ldN_lit ?_
      | refine nw (fun n => ?_)
      | refine bld ?_
      | refine st_lit rfl ?_
      | refine need (by first | rfl | omega) ?_
      | (refine wr (fun z hz => ?_); (try rw [Int.tdiv_eq_ediv_of_nonneg (by omega)] at hz); rw [w64 (by omega) (by omega)] at hz; subst hz)
      | (refine zv (fun z hz => ?_); (try rw [Int.tmod_eq_emod_of_nonneg (by omega)] at hz); subst hz)
      | (refine ifs (fun h => ?_) (fun h => ?_) <;> (try (exfalso; first | omega | with_reducible contradiction | with_reducible exact h rfl))))
  all_goals (conv => whnf)
  all_goals exact fin_g (A := [⟨n, _⟩, ⟨kn, _⟩, ⟨wn, _⟩, stB sn x]) (.blk takeC (.blk takeC (.blk takeC (.blk takeC .nil)))) ⟨⟨n, kn, wn⟩, rfl, rfl⟩
/-! Numbers. -/
def numR (r : RigP) (V : StoV) (x : RwP) : RigP := if x.next < x.top then r else srF r (V.is.to (needN x)).lay
def numV (V : StoV) (x : RwP) : StoV := if x.next < x.top then V else { V with is := V.is.to (needN x), next := V.next.to (needN x) }
def numX (x : RwP) : RwP := ⟨x.next + 1, if x.next < x.top then x.top else needN x, x.many⟩
/-- What holds of a vault that has not failed. -/
structure VOk (r : RigP) (V : StoV) (x : RwP) : Prop where
  row : rowOk x
  top : V.is.iv = x.top
  reg : V.is.ok
  fine : Fine r
  ok : V.failed = 0
  att : V.is.at_ = true
theorem raiseO_ok {r : RigP} {V : StoV} {x : RwP} (h : VOk r V x) (h1 : ¬ x.next < x.top) (h2 : x.next < x.many) : raiseO r V (needN x) = (srF r (V.is.to (needN x)).lay, { V with is := V.is.to (needN x), next := V.next.to (needN x) }, 0) := by
  unfold raiseO
  rw [if_pos]
  have h3 := h.row
  have h4 := h.top
  unfold rowOk at h3
  unfold ivOk needN
  rw [if_neg (by omega)]
  omega
attribute [local irreducible] srF RgV.lay Sto.c rowK
set_option maxHeartbeats 1000000 in
theorem number_ (a : RigA) (r : RigP) (A : StoA) (V : StoV) (B : VA) (v : VP) (hrn : V.rn = a.rn) (h : VOk r V v.x) (hn : v.x.next < v.x.many) :
    Fnc Tryz.prog 80 [pt B.vn] (rgM ⟨a, r⟩ ++ [stB A.sn (Sto.c ⟨A, V⟩), vB B A.sn v, rwB B.wn v.x])
      (Ret (.tuple #[.int .i64 v.x.next, .int .i64 0]) (rgM ⟨a, numR r V v.x⟩ ++ [stB A.sn (Sto.c ⟨A, numV V v.x⟩), vB B A.sn v, rwB B.wn (numX v.x)])) := by
  have hrow := h.row
  have h1 := need_ B.wn v.x hrow
  obtain ⟨g0, g1, g2, g3⟩ := hrow
  by_cases hlt : v.x.next < v.x.top
  · rw [show needB v.x = false by unfold needB; exact decide_eq_false (by omega)] at h1
    have h2 := itake B.wn v.x h.row hlt
    rw [show numR r V v.x = r by unfold numR; rw [if_pos hlt], show numV V v.x = V by unfold numV; rw [if_pos hlt], show numX v.x = { v.x with next := v.x.next + 1 } by unfold numX; rw [if_pos hlt]]
    refine fn_intro Tryz.func80 (by kernel_rfl) ?_
    repeat' ((conv => whnf); first
        | refine call_gr h1 (.blk takeC .nil) ?_
        | refine call_gr h2 (.blk takeC .nil) ?_
        | refine ld1_lit ?_
        | refine ldN_lit ?_
        | refine nw (fun n => ?_)
        | refine bld ?_
        | refine st_lit rfl ?_
        | refine need (by first | rfl | omega) ?_
        | (refine wr (fun z hz => ?_); (try rw [Int.tdiv_eq_ediv_of_nonneg (by omega)] at hz); rw [w64 (by omega) (by omega)] at hz; subst hz)
        | (refine zv (fun z hz => ?_); (try rw [Int.tmod_eq_emod_of_nonneg (by omega)] at hz); subst hz)
        | (refine ifs (fun h => ?_) (fun h => ?_) <;> (try (exfalso; first | omega | with_reducible contradiction | with_reducible exact h rfl))))
    all_goals (conv => whnf)
    all_goals exact fin_g (A := rgM _ ++ [⟨A.sn, _⟩, ⟨B.vn, _⟩, ⟨B.wn, _⟩]) (.grp takeG (.blk takeC (.blk takeC (.blk takeC .nil)))) ⟨rfl, rfl⟩
  · rw [show needB v.x = true by unfold needB; exact decide_eq_true (by omega)] at h1
    have hr := raise_ a r A V (needN v.x) hrn h.reg h.fine h.ok
    rw [raiseO_ok h hlt hn] at hr
    have hN : needN v.x = min (v.x.top + 16) v.x.many := by unfold needN; rw [if_neg (by omega)]
    have h2 := iraise B.wn v.x (needN v.x) (by omega)
    have h3 := itake B.wn { v.x with top := needN v.x } ⟨by show 0 ≤ v.x.next; omega, by show v.x.next ≤ needN v.x; omega, by show needN v.x ≤ v.x.many; omega, by show v.x.many ≤ _; omega⟩ (by show v.x.next < needN v.x; omega)
    rw [show numR r V v.x = srF r (V.is.to (needN v.x)).lay by unfold numR; rw [if_neg hlt], show numV V v.x = { V with is := V.is.to (needN v.x), next := V.next.to (needN v.x) } by unfold numV; rw [if_neg hlt], show numX v.x = ⟨v.x.next + 1, needN v.x, v.x.many⟩ by unfold numX; rw [if_neg hlt]]
    refine fn_intro Tryz.func80 (by kernel_rfl) ?_
    repeat' ((conv => whnf); first
        | refine call_gr h1 (.blk takeC .nil) ?_
        | refine call_gr hr (.grp takeG (.blk takeC .nil)) ?_
        | refine call_gr h2 (.blk takeC .nil) ?_
        | refine call_gr h3 (.blk takeC .nil) ?_
        | refine ld1_lit ?_
        | refine ldN_lit ?_
        | refine nw (fun n => ?_)
        | refine bld ?_
        | refine st_lit rfl ?_
        | refine need (by first | rfl | omega) ?_
        | (refine wr (fun z hz => ?_); (try rw [Int.tdiv_eq_ediv_of_nonneg (by omega)] at hz); rw [w64 (by omega) (by omega)] at hz; subst hz)
        | (refine zv (fun z hz => ?_); (try rw [Int.tmod_eq_emod_of_nonneg (by omega)] at hz); subst hz)
        | (refine ifs (fun h => ?_) (fun h => ?_) <;> (try (exfalso; first | omega | with_reducible contradiction | with_reducible exact h rfl))))
    all_goals (conv => whnf)
    all_goals exact fin_g (A := rgM _ ++ [⟨A.sn, _⟩, ⟨B.vn, _⟩, ⟨B.wn, _⟩]) (.grp takeG (.blk takeC (.blk takeC (.blk takeC .nil)))) ⟨rfl, rfl⟩
/-! Seal. -/
def sealX (v : VP) : VP := ⟨v.k, numX v.x, v.n + 1⟩
def sealB (v : VP) (s : ByteArray) : ByteArray := layB v.x.next 1 (cry v.k v.x.next s)
theorem num_ok {r : RigP} {V : StoV} {x : RwP} (h : VOk r V x) (hn : x.next < x.many) : numOk x.next := by
  have := h.row; unfold rowOk at this; unfold numOk; omega
theorem seal_go (a : RigA) (r : RigP) (A : StoA) (V : StoV) (B : VA) (v : VP) (s : ByteArray) (hrn : V.rn = a.rn) (h : VOk r V v.x) (hn : v.x.next < v.x.many) (hk : ∀ i, by8 (v.k i)) (hs : s.size = 48) (hv : 0 ≤ v.n ∧ v.n < 1099511627776) :
    Fnc Tryz.prog 24 [pt B.vn, .string s] (rgM ⟨a, r⟩ ++ (stB A.sn (Sto.c ⟨A, V⟩) :: vM B A.sn v))
      (Ret (.tuple #[.string (sealB v s), .int .i64 0]) (rgM ⟨a, numR r V v.x⟩ ++ (stB A.sn (Sto.c ⟨A, numV V v.x⟩) :: vM B A.sn (sealX v)))) := by
  have h1 := failed_ A.sn (Sto.c ⟨A, V⟩) (by unfold Sto.c; exact h.ok)
  have h2 := number_ a r A V B v hrn h hn
  have h3 := seal_ B.kn v.k v.x.next s hk (num_ok h hn) hs
  unfold vM
  refine fn_intro Tryz.func24 (by kernel_rfl) ?_
  repeat' ((conv => whnf); first
      | refine call_gr h1 (.blk takeC .nil) ?_
      | refine call_gr h2 (.grp takeG (.blk takeC (.blk takeC (.blk takeC .nil)))) ?_
      | refine call_gr h3 (.blk takeC .nil) ?_
      | refine ld1_lit ?_
      | refine ldN_lit ?_
      | refine nw (fun n => ?_)
      | refine bld ?_
      | refine st_lit rfl ?_
      | refine need (by first | rfl | omega) ?_
      | (refine wr (fun z hz => ?_); (try rw [Int.tdiv_eq_ediv_of_nonneg (by omega)] at hz); rw [w64 (by omega) (by omega)] at hz; subst hz)
      | (refine zv (fun z hz => ?_); (try rw [Int.tmod_eq_emod_of_nonneg (by omega)] at hz); subst hz)
      | (refine ifs (fun h => ?_) (fun h => ?_) <;> (try (exfalso; first | omega | with_reducible contradiction | with_reducible exact h rfl))))
  all_goals (conv => whnf)
  all_goals exact fin_g (A := rgM _ ++ [⟨A.sn, _⟩, ⟨B.vn, _⟩, ⟨B.kn, _⟩, ⟨B.wn, _⟩]) (.grp takeG (.blk takeC (.blk takeC (.blk takeC (.blk takeC .nil))))) ⟨rfl, rfl⟩
theorem seal_form (vn : Nat) (s : ByteArray) (hs : ¬ s.size = 48) : Fnc Tryz.prog 24 [pt vn, .string s] [] (Ret (.tuple #[.string ByteArray.empty, .int .i64 6]) []) := by
  refine fn_intro Tryz.func24 (by kernel_rfl) ?_
  repeat' ((conv => whnf); first
      | refine ld1_lit ?_
      | refine ldN_lit ?_
      | refine nw (fun n => ?_)
      | refine bld ?_
      | refine st_lit rfl ?_
      | refine need (by first | rfl | omega) ?_
      | (refine wr (fun z hz => ?_); (try rw [Int.tdiv_eq_ediv_of_nonneg (by omega)] at hz); rw [w64 (by omega) (by omega)] at hz; subst hz)
      | (refine zv (fun z hz => ?_); (try rw [Int.tmod_eq_emod_of_nonneg (by omega)] at hz); subst hz)
      | (refine ifs (fun h => ?_) (fun h => ?_) <;> (try (exfalso; first | omega | with_reducible contradiction | with_reducible exact h rfl))))
  all_goals (conv => whnf)
  all_goals exact fin_nil ⟨rfl, rfl⟩
end Go.Proofs.YtohefdmfnllehaaGreat.Aut
/- A vault's calls. -/
namespace Go.Proofs.YtohefdmfnllehaaGreat.Aut
open Go Ev Sha Aes Orc Node Rec Chn Jrn Cau Sto Ivs Ctr
open Rig (Fnc_takeR RigP Rg rgM z64 app_of RigA)
open Tree (TreP TreA Tre treM)
set_option linter.unusedVariables false
set_option linter.unusedSimpArgs false
set_option maxRecDepth 100000
/-! A nil vault. -/
theorem read_nil (d l : Int) : Fnc Tryz.prog 17 [.pointer none, .int .i64 d, .int .i64 l] [] (Ret (.tuple #[.string ByteArray.empty, .int .i64 1]) []) := by
  refine fn_intro Tryz.func17 (by kernel_rfl) ?_
  repeat' ((conv => whnf); first
      | refine ld1_lit ?_
      | refine ldN_lit ?_
      | refine nw (fun n => ?_)
      | refine bld ?_
      | refine st_lit rfl ?_
      | refine need (by first | rfl | omega) ?_
      | (refine wr (fun z hz => ?_); (try rw [Int.tdiv_eq_ediv_of_nonneg (by omega)] at hz); rw [w64 (by omega) (by omega)] at hz; subst hz)
      | (refine zv (fun z hz => ?_); (try rw [Int.tmod_eq_emod_of_nonneg (by omega)] at hz); subst hz)
      | (refine ifs (fun h => ?_) (fun h => ?_) <;> (try (exfalso; first | omega | with_reducible contradiction | with_reducible exact h rfl))))
  all_goals (conv => whnf)
  all_goals exact fin_nil ⟨rfl, rfl⟩
theorem seal_nil (s : ByteArray) : Fnc Tryz.prog 24 [.pointer none, .string s] [] (Ret (.tuple #[.string ByteArray.empty, .int .i64 1]) []) := by
  refine fn_intro Tryz.func24 (by kernel_rfl) ?_
  repeat' ((conv => whnf); first
      | refine ld1_lit ?_
      | refine ldN_lit ?_
      | refine nw (fun n => ?_)
      | refine bld ?_
      | refine st_lit rfl ?_
      | refine need (by first | rfl | omega) ?_
      | (refine wr (fun z hz => ?_); (try rw [Int.tdiv_eq_ediv_of_nonneg (by omega)] at hz); rw [w64 (by omega) (by omega)] at hz; subst hz)
      | (refine zv (fun z hz => ?_); (try rw [Int.tmod_eq_emod_of_nonneg (by omega)] at hz); subst hz)
      | (refine ifs (fun h => ?_) (fun h => ?_) <;> (try (exfalso; first | omega | with_reducible contradiction | with_reducible exact h rfl))))
  all_goals (conv => whnf)
  all_goals exact fin_nil ⟨rfl, rfl⟩
theorem set_nil (d l : Int) (s : ByteArray) : Fnc Tryz.prog 20 [.pointer none, .int .i64 d, .int .i64 l, .string s] [] (Ret (.int .i64 1) []) := by
  refine fn_intro Tryz.func20 (by kernel_rfl) ?_
  repeat' ((conv => whnf); first
      | refine ld1_lit ?_
      | refine ldN_lit ?_
      | refine nw (fun n => ?_)
      | refine bld ?_
      | refine st_lit rfl ?_
      | refine need (by first | rfl | omega) ?_
      | (refine wr (fun z hz => ?_); (try rw [Int.tdiv_eq_ediv_of_nonneg (by omega)] at hz); rw [w64 (by omega) (by omega)] at hz; subst hz)
      | (refine zv (fun z hz => ?_); (try rw [Int.tmod_eq_emod_of_nonneg (by omega)] at hz); subst hz)
      | (refine ifs (fun h => ?_) (fun h => ?_) <;> (try (exfalso; first | omega | with_reducible contradiction | with_reducible exact h rfl))))
  all_goals (conv => whnf)
  all_goals exact fin_nil ⟨rfl, rfl⟩
theorem write_nil (d l : Int) (s : ByteArray) : Fnc Tryz.prog 22 [.pointer none, .int .i64 d, .int .i64 l, .string s] [] (Ret (.int .i64 1) []) := by
  have h1 := seal_nil s
  refine fn_intro Tryz.func22 (by kernel_rfl) ?_
  repeat' ((conv => whnf); first
      | refine call_val h1 ?_
      | refine ld1_lit ?_
      | refine ldN_lit ?_
      | refine nw (fun n => ?_)
      | refine bld ?_
      | refine st_lit rfl ?_
      | refine need (by first | rfl | omega) ?_
      | (refine wr (fun z hz => ?_); (try rw [Int.tdiv_eq_ediv_of_nonneg (by omega)] at hz); rw [w64 (by omega) (by omega)] at hz; subst hz)
      | (refine zv (fun z hz => ?_); (try rw [Int.tmod_eq_emod_of_nonneg (by omega)] at hz); subst hz)
      | (refine ifs (fun h => ?_) (fun h => ?_) <;> (try (exfalso; first | omega | with_reducible contradiction | with_reducible exact h rfl))))
  all_goals (conv => whnf)
  all_goals exact fin_nil ⟨rfl, rfl⟩
theorem plain_nil (d l : Int) (s : ByteArray) : Fnc Tryz.prog 23 [.pointer none, .int .i64 d, .int .i64 l, .string s] [] (Ret (.int .i64 1) []) := by
  refine fn_intro Tryz.func23 (by kernel_rfl) ?_
  repeat' ((conv => whnf); first
      | refine ld1_lit ?_
      | refine ldN_lit ?_
      | refine nw (fun n => ?_)
      | refine bld ?_
      | refine st_lit rfl ?_
      | refine need (by first | rfl | omega) ?_
      | (refine wr (fun z hz => ?_); (try rw [Int.tdiv_eq_ediv_of_nonneg (by omega)] at hz); rw [w64 (by omega) (by omega)] at hz; subst hz)
      | (refine zv (fun z hz => ?_); (try rw [Int.tmod_eq_emod_of_nonneg (by omega)] at hz); subst hz)
      | (refine ifs (fun h => ?_) (fun h => ?_) <;> (try (exfalso; first | omega | with_reducible contradiction | with_reducible exact h rfl))))
  all_goals (conv => whnf)
  all_goals exact fin_nil ⟨rfl, rfl⟩
theorem clear_nil (d l : Int) : Fnc Tryz.prog 19 [.pointer none, .int .i64 d, .int .i64 l] [] (Ret (.int .i64 1) []) := by
  refine fn_intro Tryz.func19 (by kernel_rfl) ?_
  repeat' ((conv => whnf); first
      | refine ld1_lit ?_
      | refine ldN_lit ?_
      | refine nw (fun n => ?_)
      | refine bld ?_
      | refine st_lit rfl ?_
      | refine need (by first | rfl | omega) ?_
      | (refine wr (fun z hz => ?_); (try rw [Int.tdiv_eq_ediv_of_nonneg (by omega)] at hz); rw [w64 (by omega) (by omega)] at hz; subst hz)
      | (refine zv (fun z hz => ?_); (try rw [Int.tmod_eq_emod_of_nonneg (by omega)] at hz); subst hz)
      | (refine ifs (fun h => ?_) (fun h => ?_) <;> (try (exfalso; first | omega | with_reducible contradiction | with_reducible exact h rfl))))
  all_goals (conv => whnf)
  all_goals exact fin_nil ⟨rfl, rfl⟩
theorem copy_nil (d l e t : Int) : Fnc Tryz.prog 18 [.pointer none, .int .i64 d, .int .i64 l, .int .i64 e, .int .i64 t] [] (Ret (.int .i64 1) []) := by
  refine fn_intro Tryz.func18 (by kernel_rfl) ?_
  repeat' ((conv => whnf); first
      | refine ld1_lit ?_
      | refine ldN_lit ?_
      | refine nw (fun n => ?_)
      | refine bld ?_
      | refine st_lit rfl ?_
      | refine need (by first | rfl | omega) ?_
      | (refine wr (fun z hz => ?_); (try rw [Int.tdiv_eq_ediv_of_nonneg (by omega)] at hz); rw [w64 (by omega) (by omega)] at hz; subst hz)
      | (refine zv (fun z hz => ?_); (try rw [Int.tmod_eq_emod_of_nonneg (by omega)] at hz); subst hz)
      | (refine ifs (fun h => ?_) (fun h => ?_) <;> (try (exfalso; first | omega | with_reducible contradiction | with_reducible exact h rfl))))
  all_goals (conv => whnf)
  all_goals exact fin_pick (A' := []) .nil ⟨rfl, rfl⟩
theorem store_nil : Fnc Tryz.prog 26 [.pointer none] [] (Ret (.pointer none) []) := by
  refine fn_intro Tryz.func26 (by kernel_rfl) ?_
  repeat' ((conv => whnf); first
      | refine ld1_lit ?_
      | refine ldN_lit ?_
      | refine nw (fun n => ?_)
      | refine bld ?_
      | refine st_lit rfl ?_
      | refine need (by first | rfl | omega) ?_
      | (refine wr (fun z hz => ?_); (try rw [Int.tdiv_eq_ediv_of_nonneg (by omega)] at hz); rw [w64 (by omega) (by omega)] at hz; subst hz)
      | (refine zv (fun z hz => ?_); (try rw [Int.tmod_eq_emod_of_nonneg (by omega)] at hz); subst hz)
      | (refine ifs (fun h => ?_) (fun h => ?_) <;> (try (exfalso; first | omega | with_reducible contradiction | with_reducible exact h rfl))))
  all_goals (conv => whnf)
  all_goals exact fin_nil ⟨rfl, rfl⟩
theorem left_nil : Fnc Tryz.prog 27 [.pointer none] [] (Ret (.int .i64 0) []) := by
  refine fn_intro Tryz.func27 (by kernel_rfl) ?_
  repeat' ((conv => whnf); first
      | refine ld1_lit ?_
      | refine ldN_lit ?_
      | refine nw (fun n => ?_)
      | refine bld ?_
      | refine st_lit rfl ?_
      | refine need (by first | rfl | omega) ?_
      | (refine wr (fun z hz => ?_); (try rw [Int.tdiv_eq_ediv_of_nonneg (by omega)] at hz); rw [w64 (by omega) (by omega)] at hz; subst hz)
      | (refine zv (fun z hz => ?_); (try rw [Int.tmod_eq_emod_of_nonneg (by omega)] at hz); subst hz)
      | (refine ifs (fun h => ?_) (fun h => ?_) <;> (try (exfalso; first | omega | with_reducible contradiction | with_reducible exact h rfl))))
  all_goals (conv => whnf)
  all_goals exact fin_nil ⟨rfl, rfl⟩
theorem sealed_nil : Fnc Tryz.prog 28 [.pointer none] [] (Ret (.int .i64 0) []) := by
  refine fn_intro Tryz.func28 (by kernel_rfl) ?_
  repeat' ((conv => whnf); first
      | refine ld1_lit ?_
      | refine ldN_lit ?_
      | refine nw (fun n => ?_)
      | refine bld ?_
      | refine st_lit rfl ?_
      | refine need (by first | rfl | omega) ?_
      | (refine wr (fun z hz => ?_); (try rw [Int.tdiv_eq_ediv_of_nonneg (by omega)] at hz); rw [w64 (by omega) (by omega)] at hz; subst hz)
      | (refine zv (fun z hz => ?_); (try rw [Int.tmod_eq_emod_of_nonneg (by omega)] at hz); subst hz)
      | (refine ifs (fun h => ?_) (fun h => ?_) <;> (try (exfalso; first | omega | with_reducible contradiction | with_reducible exact h rfl))))
  all_goals (conv => whnf)
  all_goals exact fin_nil ⟨rfl, rfl⟩
/-! What a vault tells. -/
attribute [local irreducible] srF RgV.lay Sto.c rowK sysM z64 getO putO bodyS kdE kdN kdK
theorem store_ (B : VA) (sn : Nat) (v : VP) : Fnc Tryz.prog 26 [pt B.vn] [vB B sn v] (Ret (pt sn) [vB B sn v]) := by
  refine fn_intro Tryz.func26 (by kernel_rfl) ?_
  repeat' ((conv => whnf); first
      | refine ld1_lit ?_
      | refine ldN_lit ?_
      | refine nw (fun n => ?_)
      | refine bld ?_
      | refine st_lit rfl ?_
      | refine need (by first | rfl | omega) ?_
      | (refine wr (fun z hz => ?_); (try rw [Int.tdiv_eq_ediv_of_nonneg (by omega)] at hz); rw [w64 (by omega) (by omega)] at hz; subst hz)
      | (refine zv (fun z hz => ?_); (try rw [Int.tmod_eq_emod_of_nonneg (by omega)] at hz); subst hz)
      | (refine ifs (fun h => ?_) (fun h => ?_) <;> (try (exfalso; first | omega | with_reducible contradiction | with_reducible exact h rfl))))
  all_goals (conv => whnf)
  all_goals exact fin_all ⟨rfl, rfl⟩
theorem sealed_ (B : VA) (sn : Nat) (v : VP) : Fnc Tryz.prog 28 [pt B.vn] [vB B sn v] (Ret (.int .i64 v.n) [vB B sn v]) := by
  refine fn_intro Tryz.func28 (by kernel_rfl) ?_
  repeat' ((conv => whnf); first
      | refine ld1_lit ?_
      | refine ldN_lit ?_
      | refine nw (fun n => ?_)
      | refine bld ?_
      | refine st_lit rfl ?_
      | refine need (by first | rfl | omega) ?_
      | (refine wr (fun z hz => ?_); (try rw [Int.tdiv_eq_ediv_of_nonneg (by omega)] at hz); rw [w64 (by omega) (by omega)] at hz; subst hz)
      | (refine zv (fun z hz => ?_); (try rw [Int.tmod_eq_emod_of_nonneg (by omega)] at hz); subst hz)
      | (refine ifs (fun h => ?_) (fun h => ?_) <;> (try (exfalso; first | omega | with_reducible contradiction | with_reducible exact h rfl))))
  all_goals (conv => whnf)
  all_goals exact fin_all ⟨rfl, rfl⟩
theorem left_ (B : VA) (sn : Nat) (v : VP) (h : rowOk v.x) : Fnc Tryz.prog 27 [pt B.vn] [vB B sn v, rwB B.wn v.x] (Ret (.int .i64 (v.x.many - v.x.next)) [vB B sn v, rwB B.wn v.x]) := by
  have h1 := ileft B.wn v.x h
  refine fn_intro Tryz.func27 (by kernel_rfl) ?_
  repeat' ((conv => whnf); first
      | refine call_gr h1 (.blk takeC .nil) ?_
      | refine ld1_lit ?_
      | refine ldN_lit ?_
      | refine nw (fun n => ?_)
      | refine bld ?_
      | refine st_lit rfl ?_
      | refine need (by first | rfl | omega) ?_
      | (refine wr (fun z hz => ?_); (try rw [Int.tdiv_eq_ediv_of_nonneg (by omega)] at hz); rw [w64 (by omega) (by omega)] at hz; subst hz)
      | (refine zv (fun z hz => ?_); (try rw [Int.tmod_eq_emod_of_nonneg (by omega)] at hz); subst hz)
      | (refine ifs (fun h => ?_) (fun h => ?_) <;> (try (exfalso; first | omega | with_reducible contradiction | with_reducible exact h rfl))))
  all_goals (conv => whnf)
  all_goals exact fin_g (A := [⟨B.vn, _⟩, ⟨B.wn, _⟩]) (.blk takeC (.blk takeC .nil)) ⟨rfl, rfl⟩
/-! Set, Plain, Clear. -/
/-- A store's call on a vault. -/
structure Can (a : RigA) (o : Orc) (A : StoA) (V : StoV) : Prop where
  ok : SOk ⟨A, V⟩ a.rn o.on
  att : V.is.at_ = true
  fl : V.failed = 0
  len : o.ts.length ≤ 1099511610000
theorem setv (a : RigA) (r : RigP) (o : Orc) (A : StoA) (V : StoV) (B : VA) (v : VP) (d l : Int) (s : ByteArray) (h : Can a o A V) (hk : kdOk s) :
    Fnc Tryz.prog 20 [pt B.vn, .int .i64 d, .int .i64 l, .string s] (sysM a r o A V ++ [vB B A.sn v])
      (RetO o (putO r o.ts V d l s).ts (fun o' => sysM a (putO r o.ts V d l s).r o' A ((putO r o.ts V d l s).V.fl (putO r o.ts V d l s).e) ++ [vB B A.sn v]) (.int .i64 (putO r o.ts V d l s).e)) := by
  have h1 := put_ a r o A V d l s h.ok h.att h.fl h.len
  have h2 := kind_ s (by have := hk.1; omega)
  rw [show kdE s = 0 by unfold kdE; rw [if_pos hk]] at h2
  refine fn_intro Tryz.func20 (by kernel_rfl) ?_
  repeat' ((conv => whnf); first
      | refine call_val h2 ?_
      | refine call_go h1 (.one takeE) (fun o1 a1 a2 => ?_)
      | refine ld1_lit ?_
      | refine ldN_lit ?_
      | refine nw (fun n => ?_)
      | refine bld ?_
      | refine st_lit rfl ?_
      | refine need (by first | rfl | omega) ?_
      | (refine wr (fun z hz => ?_); (try rw [Int.tdiv_eq_ediv_of_nonneg (by omega)] at hz); rw [w64 (by omega) (by omega)] at hz; subst hz)
      | (refine zv (fun z hz => ?_); (try rw [Int.tmod_eq_emod_of_nonneg (by omega)] at hz); subst hz)
      | (refine ifs (fun h => ?_) (fun h => ?_) <;> (try (exfalso; first | omega | with_reducible contradiction | with_reducible exact h rfl))))
  all_goals (conv => whnf)
  all_goals exact fin_g (A := sysM _ _ o1 _ _ ++ [⟨B.vn, _⟩]) (.grp takeE (.blk takeC .nil)) ⟨o1, a1, a2, rfl, rfl⟩
theorem setv_no (vn : Nat) (d l : Int) (s : ByteArray) (hs : s.size ≤ 140737488355328) (hk : ¬ kdOk s) : Fnc Tryz.prog 20 [pt vn, .int .i64 d, .int .i64 l, .string s] [] (Ret (.int .i64 6) []) := by
  have h2 := kind_ s hs
  rw [show kdE s = 6 by unfold kdE; rw [if_neg hk]] at h2
  refine fn_intro Tryz.func20 (by kernel_rfl) ?_
  repeat' ((conv => whnf); first
      | refine call_val h2 ?_
      | refine ld1_lit ?_
      | refine ldN_lit ?_
      | refine nw (fun n => ?_)
      | refine bld ?_
      | refine st_lit rfl ?_
      | refine need (by first | rfl | omega) ?_
      | (refine wr (fun z hz => ?_); (try rw [Int.tdiv_eq_ediv_of_nonneg (by omega)] at hz); rw [w64 (by omega) (by omega)] at hz; subst hz)
      | (refine zv (fun z hz => ?_); (try rw [Int.tmod_eq_emod_of_nonneg (by omega)] at hz); subst hz)
      | (refine ifs (fun h => ?_) (fun h => ?_) <;> (try (exfalso; first | omega | with_reducible contradiction | with_reducible exact h rfl))))
  all_goals (conv => whnf)
  all_goals exact fin_nil ⟨rfl, rfl⟩
theorem num0 : numOk 0 := ⟨by omega, by omega⟩
theorem plain_ (a : RigA) (r : RigP) (o : Orc) (A : StoA) (V : StoV) (B : VA) (v : VP) (d l : Int) (s : ByteArray) (h : Can a o A V) (hs : s.size = 48) :
    Fnc Tryz.prog 23 [pt B.vn, .int .i64 d, .int .i64 l, .string s] (sysM a r o A V ++ [vB B A.sn v])
      (RetO o (putO r o.ts V d l (layB 0 2 s)).ts (fun o' => sysM a (putO r o.ts V d l (layB 0 2 s)).r o' A ((putO r o.ts V d l (layB 0 2 s)).V.fl (putO r o.ts V d l (layB 0 2 s)).e) ++ [vB B A.sn v]) (.int .i64 (putO r o.ts V d l (layB 0 2 s)).e)) := by
  have h1 := put_ a r o A V d l (layB 0 2 s) h.ok h.att h.fl h.len
  have h2 := clay 0 s num0 hs
  refine fn_intro Tryz.func23 (by kernel_rfl) ?_
  repeat' ((conv => whnf); first
      | refine call_val h2 ?_
      | refine call_go h1 (.one takeE) (fun o1 a1 a2 => ?_)
      | refine ld1_lit ?_
      | refine ldN_lit ?_
      | refine nw (fun n => ?_)
      | refine bld ?_
      | refine st_lit rfl ?_
      | refine need (by first | rfl | omega) ?_
      | (refine wr (fun z hz => ?_); (try rw [Int.tdiv_eq_ediv_of_nonneg (by omega)] at hz); rw [w64 (by omega) (by omega)] at hz; subst hz)
      | (refine zv (fun z hz => ?_); (try rw [Int.tmod_eq_emod_of_nonneg (by omega)] at hz); subst hz)
      | (refine ifs (fun h => ?_) (fun h => ?_) <;> (try (exfalso; first | omega | with_reducible contradiction | with_reducible exact h rfl))))
  all_goals (conv => whnf)
  all_goals exact fin_g (A := sysM _ _ o1 _ _ ++ [⟨B.vn, _⟩]) (.grp takeE (.blk takeC .nil)) ⟨o1, a1, a2, rfl, rfl⟩
theorem plain_form (vn : Nat) (d l : Int) (s : ByteArray) (hs : ¬ s.size = 48) : Fnc Tryz.prog 23 [pt vn, .int .i64 d, .int .i64 l, .string s] [] (Ret (.int .i64 6) []) := by
  have h2 := clay_no 0 s num0 hs
  refine fn_intro Tryz.func23 (by kernel_rfl) ?_
  repeat' ((conv => whnf); first
      | refine call_val h2 ?_
      | refine ld1_lit ?_
      | refine ldN_lit ?_
      | refine nw (fun n => ?_)
      | refine bld ?_
      | refine st_lit rfl ?_
      | refine need (by first | rfl | omega) ?_
      | (refine wr (fun z hz => ?_); (try rw [Int.tdiv_eq_ediv_of_nonneg (by omega)] at hz); rw [w64 (by omega) (by omega)] at hz; subst hz)
      | (refine zv (fun z hz => ?_); (try rw [Int.tmod_eq_emod_of_nonneg (by omega)] at hz); subst hz)
      | (refine ifs (fun h => ?_) (fun h => ?_) <;> (try (exfalso; first | omega | with_reducible contradiction | with_reducible exact h rfl))))
  all_goals (conv => whnf)
  all_goals exact fin_nil ⟨rfl, rfl⟩
theorem clearv (a : RigA) (r : RigP) (o : Orc) (A : StoA) (V : StoV) (B : VA) (v : VP) (d l : Int) (h : Can a o A V) :
    Fnc Tryz.prog 19 [pt B.vn, .int .i64 d, .int .i64 l] (sysM a r o A V ++ [vB B A.sn v])
      (RetO o (putO r o.ts V d l z64).ts (fun o' => sysM a (putO r o.ts V d l z64).r o' A ((putO r o.ts V d l z64).V.fl (putO r o.ts V d l z64).e) ++ [vB B A.sn v]) (.int .i64 (putO r o.ts V d l z64).e)) := by
  have h1 := clear_ a r o A V d l h.ok h.att h.fl h.len
  refine fn_intro Tryz.func19 (by kernel_rfl) ?_
  repeat' ((conv => whnf); first
      | refine call_go h1 (.one takeE) (fun o1 a1 a2 => ?_)
      | refine ld1_lit ?_
      | refine ldN_lit ?_
      | refine nw (fun n => ?_)
      | refine bld ?_
      | refine st_lit rfl ?_
      | refine need (by first | rfl | omega) ?_
      | (refine wr (fun z hz => ?_); (try rw [Int.tdiv_eq_ediv_of_nonneg (by omega)] at hz); rw [w64 (by omega) (by omega)] at hz; subst hz)
      | (refine zv (fun z hz => ?_); (try rw [Int.tmod_eq_emod_of_nonneg (by omega)] at hz); subst hz)
      | (refine ifs (fun h => ?_) (fun h => ?_) <;> (try (exfalso; first | omega | with_reducible contradiction | with_reducible exact h rfl))))
  all_goals (conv => whnf)
  all_goals exact fin_g (A := sysM _ _ o1 _ _ ++ [⟨B.vn, _⟩]) (.grp takeE (.blk takeC .nil)) ⟨o1, a1, a2, rfl, rfl⟩
/-! Read. -/
def z48 : ByteArray := str (List.replicate 48 0)
/-- What a Get's answer is as data. -/
def readS (k : Nat → Int) (q : OutR) : ByteArray := if q.e ≠ 0 then ByteArray.empty else if q.is = false then z48 else bodyS k q.s
theorem readv (a : RigA) (r : RigP) (o : Orc) (A : StoA) (V : StoV) (B : VA) (v : VP) (d l : Int) (h : Can a o A V) (hb : ∀ i, by8 (v.k i)) (q : OutR) (eq : q = getO r o.ts V d l) (hk : q.e = 0 → q.is = true → kdOk q.s) :
    Fnc Tryz.prog 17 [pt B.vn, .int .i64 d, .int .i64 l] (sysM a r o A V ++ [vB B A.sn v, kB B.kn v.k])
      (RetO o q.ts (fun o' => sysM a q.r o' A (q.V.fl q.e) ++ [vB B A.sn v, kB B.kn v.k]) (.tuple #[.string (readS v.k q), .int .i64 q.e])) := by
  have h1 := get_ a r o A V d l h.ok h.att h.fl h.len
  rw [← eq] at h1
  clear eq
  by_cases he : q.e = 0
  · rw [he] at h1 ⊢
    by_cases hi : q.is = false
    · rw [hi] at h1
      rw [show readS v.k q = z48 by unfold readS; rw [if_neg (by simp [he]), if_pos hi]]
      have hz : str (List.replicate 48 0) = z48 := by unfold z48; rfl
      refine fn_intro Tryz.func17 (by kernel_rfl) ?_
      repeat' ((conv => whnf); first
          | refine call_go h1 (.one takeE) (fun o1 a1 a2 => ?_)
          | refine mk_row rfl rfl rfl rfl rfl (by decide) (by decide) (by decide) (fun n => ?_)
          | (refine b2s_row (t := 5) (l := List.replicate 48 0) (junk := []) (by simp [u8s]) rfl rfl rfl (by simp) ?_; rw [hz])
          | refine ld1_lit ?_
          | refine ldN_lit ?_
          | refine nw (fun n => ?_)
          | refine bld ?_
          | refine st_lit rfl ?_
          | refine need (by first | rfl | omega) ?_
          | (refine wr (fun z hz => ?_); (try rw [Int.tdiv_eq_ediv_of_nonneg (by omega)] at hz); rw [w64 (by omega) (by omega)] at hz; subst hz)
          | (refine zv (fun z hz => ?_); (try rw [Int.tmod_eq_emod_of_nonneg (by omega)] at hz); subst hz)
          | (refine ifs (fun h => ?_) (fun h => ?_) <;> (try (exfalso; first | omega | with_reducible contradiction | with_reducible exact h rfl))))
      all_goals (conv => whnf)
      all_goals exact fin_g (A := sysM _ _ o1 _ _ ++ [⟨B.vn, _⟩, ⟨B.kn, _⟩]) (.grp takeE (.blk takeC (.blk takeC .nil))) ⟨o1, a1, a2, rfl, rfl⟩
    · have hi' : q.is = true := by simpa using hi
      rw [hi'] at h1
      rw [show readS v.k q = bodyS v.k q.s by unfold readS; rw [if_neg (by simp [he]), if_neg hi]]
      have h2 := unseal_ B.kn v.k q.s hb (hk he hi')
      refine fn_intro Tryz.func17 (by kernel_rfl) ?_
      repeat' ((conv => whnf); first
          | refine call_go h1 (.one takeE) (fun o1 a1 a2 => ?_)
          | refine call_gr h2 (.blk takeC .nil) ?_
          | refine ld1_lit ?_
          | refine ldN_lit ?_
          | refine nw (fun n => ?_)
          | refine bld ?_
          | refine st_lit rfl ?_
          | refine need (by first | rfl | omega) ?_
          | (refine wr (fun z hz => ?_); (try rw [Int.tdiv_eq_ediv_of_nonneg (by omega)] at hz); rw [w64 (by omega) (by omega)] at hz; subst hz)
          | (refine zv (fun z hz => ?_); (try rw [Int.tmod_eq_emod_of_nonneg (by omega)] at hz); subst hz)
          | (refine ifs (fun h => ?_) (fun h => ?_) <;> (try (exfalso; first | omega | with_reducible contradiction | with_reducible exact h rfl))))
      all_goals (conv => whnf)
      all_goals exact fin_g (A := sysM _ _ o1 _ _ ++ [⟨B.vn, _⟩, ⟨B.kn, _⟩]) (.grp takeE (.blk takeC (.blk takeC .nil))) ⟨o1, a1, a2, rfl, rfl⟩
  · rw [show readS v.k q = ByteArray.empty by unfold readS; rw [if_pos he]]
    generalize q.e = e at he h1
    refine fn_intro Tryz.func17 (by kernel_rfl) ?_
    repeat' ((conv => whnf); first
        | refine call_go h1 (.one takeE) (fun o1 a1 a2 => ?_)
        | refine ld1_lit ?_
        | refine ldN_lit ?_
        | refine nw (fun n => ?_)
        | refine bld ?_
        | refine st_lit rfl ?_
        | refine need (by first | rfl | omega) ?_
        | (refine wr (fun z hz => ?_); (try rw [Int.tdiv_eq_ediv_of_nonneg (by omega)] at hz); rw [w64 (by omega) (by omega)] at hz; subst hz)
        | (refine zv (fun z hz => ?_); (try rw [Int.tmod_eq_emod_of_nonneg (by omega)] at hz); subst hz)
        | (refine ifs (fun h => ?_) (fun h => ?_) <;> (try (exfalso; first | omega | with_reducible contradiction | with_reducible exact h rfl))))
    all_goals (conv => whnf)
    all_goals exact fin_g (A := sysM _ _ o1 _ _ ++ [⟨B.vn, _⟩, ⟨B.kn, _⟩]) (.grp takeE (.blk takeC (.blk takeC .nil))) ⟨o1, a1, a2, rfl, rfl⟩
end Go.Proofs.YtohefdmfnllehaaGreat.Aut
/- A vault: Write, Copy. -/
namespace Go.Proofs.YtohefdmfnllehaaGreat.Aut
open Go Ev Sha Aes Orc Node Rec Chn Jrn Cau Sto Ivs Ctr
open Rig (Fnc_takeR RigP Rg rgM z64 app_of RigA)
open Tree (TreP TreA Tre treM)
set_option linter.unusedVariables false
set_option linter.unusedSimpArgs false
set_option maxRecDepth 100000
theorem sys_open (a : RigA) (r : RigP) (o : Orc) (A : StoA) (V : StoV) : sysM a r o A V = rgM ⟨a, r⟩ ++ (orcM o ++ (stB A.sn (Sto.c ⟨A, V⟩) :: stoR ⟨A, V⟩)) := rfl
theorem stoR_num (A : StoA) (V : StoV) (x : RwP) : stoR ⟨A, numV V x⟩ = stoR ⟨A, V⟩ := by unfold numV; split <;> rfl
theorem sok_num {A : StoA} {V : StoV} {rn on : Nat} (h : SOk ⟨A, V⟩ rn on) (x : RwP) : SOk ⟨A, numV V x⟩ rn on := by
  unfold numV; split
  · exact h
  · exact ⟨h.rn, h.on, h.r0, h.o0, h.r1, h.o1⟩
theorem can_num {a : RigA} {o : Orc} {A : StoA} {V : StoV} (h : Can a o A V) (x : RwP) : Can a o A (numV V x) :=
  ⟨sok_num h.ok x, by unfold numV; split <;> exact h.att, by unfold numV; split <;> exact h.fl, h.len⟩
theorem sealB_ok {r : RigP} {V : StoV} {v : VP} (h : VOk r V v.x) (hn : v.x.next < v.x.many) {s : ByteArray} (hs : s.size = 48) : kdOk (sealB v s) := (layB_ok (num_ok h hn) (.inl rfl) (cry_size _ _ _ hs)).1
attribute [local irreducible] srF RgV.lay Sto.c rowK z64 getO putO bodyS kdE kdN kdK stoR sealB numR numV
theorem write_ (a : RigA) (r : RigP) (o : Orc) (A : StoA) (V : StoV) (B : VA) (v : VP) (d l : Int) (s : ByteArray) (h : Can a o A V) (hv : VOk r V v.x) (hn : v.x.next < v.x.many) (hk : ∀ i, by8 (v.k i)) (hs : s.size = 48) (hc : 0 ≤ v.n ∧ v.n < 1099511627776)
    (q : OutR) (eq : q = putO (numR r V v.x) o.ts (numV V v.x) d l (sealB v s)) :
    Fnc Tryz.prog 22 [pt B.vn, .int .i64 d, .int .i64 l, .string s] (sysM a r o A V ++ vM B A.sn v)
      (RetO o q.ts (fun o' => sysM a q.r o' A (q.V.fl q.e) ++ vM B A.sn (sealX v)) (.int .i64 q.e)) := by
  have h1 := seal_go a r A V B v s h.ok.rn hv hn hk hs hc
  have h2 := setv a (numR r V v.x) o A (numV V v.x) B (sealX v) d l (sealB v s) (can_num h v.x) (sealB_ok hv hn hs)
  rw [← eq] at h2
  clear eq
  rw [sys_open, stoR_num] at h2
  simp only [List.append_assoc, List.cons_append, List.nil_append] at h2
  rw [sys_open]
  unfold vM at h1 ⊢
  refine fn_intro Tryz.func22 (by kernel_rfl) ?_
  repeat' ((conv => whnf); first
      | refine call_gr h1 (.grp takeG (.blk takeC (.blk takeC (.blk takeC (.blk takeC .nil))))) ?_
      | refine call_go h2 (.grp takeG (.grp takeG (.blk takeC (.grp takeE (.blk takeC .nil))))) (fun o1 a1 a2 => ?_)
      | refine ld1_lit ?_
      | refine ldN_lit ?_
      | refine nw (fun n => ?_)
      | refine bld ?_
      | refine st_lit rfl ?_
      | refine need (by first | rfl | omega) ?_
      | (refine wr (fun z hz => ?_); (try rw [Int.tdiv_eq_ediv_of_nonneg (by omega)] at hz); rw [w64 (by omega) (by omega)] at hz; subst hz)
      | (refine zv (fun z hz => ?_); (try rw [Int.tmod_eq_emod_of_nonneg (by omega)] at hz); subst hz)
      | (refine ifs (fun h => ?_) (fun h => ?_) <;> (try (exfalso; first | omega | with_reducible contradiction | with_reducible exact h rfl))))
  all_goals (conv => whnf)
  all_goals exact fin_g (A := sysM _ _ o1 _ _ ++ [⟨B.vn, _⟩, ⟨B.kn, _⟩, ⟨B.wn, _⟩]) (.grp takeE (.blk takeC (.blk takeC (.blk takeC .nil)))) ⟨o1, a1, a2, rfl, rfl⟩
theorem write_form (vn : Nat) (d l : Int) (s : ByteArray) (hs : ¬ s.size = 48) : Fnc Tryz.prog 22 [pt vn, .int .i64 d, .int .i64 l, .string s] [] (Ret (.int .i64 6) []) := by
  have h1 := seal_form vn s hs
  refine fn_intro Tryz.func22 (by kernel_rfl) ?_
  repeat' ((conv => whnf); first
      | refine call_val h1 ?_
      | refine ld1_lit ?_
      | refine ldN_lit ?_
      | refine nw (fun n => ?_)
      | refine bld ?_
      | refine st_lit rfl ?_
      | refine need (by first | rfl | omega) ?_
      | (refine wr (fun z hz => ?_); (try rw [Int.tdiv_eq_ediv_of_nonneg (by omega)] at hz); rw [w64 (by omega) (by omega)] at hz; subst hz)
      | (refine zv (fun z hz => ?_); (try rw [Int.tmod_eq_emod_of_nonneg (by omega)] at hz); subst hz)
      | (refine ifs (fun h => ?_) (fun h => ?_) <;> (try (exfalso; first | omega | with_reducible contradiction | with_reducible exact h rfl))))
  all_goals (conv => whnf)
  all_goals exact fin_nil ⟨rfl, rfl⟩
/-! Copy. -/
abbrev cV (c vn : Nat) : Blk := ⟨c, .cells [pt vn] 31⟩
theorem copy1_t (a : RigA) (r : RigP) (o : Orc) (A : StoA) (V : StoV) (B : VA) (v : VP) (e t : Int) (b : ByteArray) (c5 c8 c9 c11 c12 : Nat) (h : Can a o A V) (q : OutR) (eq : q = putO r o.ts V e t b) :
    Fnc Tryz.prog 75 [pt c12, pt c5, pt c8, pt c9, pt c11] (sysM a r o A V ++ [vB B A.sn v, cV c5 B.vn, cIn c8 e, cIn c9 t, cSr c11 b, cBo c12 true])
      (RetO o q.ts (fun o' => sysM a q.r o' A (q.V.fl q.e) ++ [vB B A.sn v, cV c5 B.vn, cIn c8 e, cIn c9 t, cSr c11 b, cBo c12 true]) (.int .i64 q.e)) := by
  have h1 := put_ a r o A V e t b h.ok h.att h.fl h.len
  rw [← eq] at h1
  clear eq
  refine fn_intro Tryz.func75 (by kernel_rfl) ?_
  repeat' ((conv => whnf); first
      | refine draw_any 2 [(0, true), (1, true), (2, true), (3, true), (4, true), (5, true), (6, true), (7, false), (8, true)] [⟨c5, _⟩, ⟨B.vn, _⟩, ⟨c8, _⟩, ⟨c9, _⟩, ⟨c11, _⟩] rfl (by kernel_rfl) (kept_of (.cons takeC (.cons takeC (.cons takeC (.cons takeC (.cons takeC .nil))))) ?_)
      | refine kept_of (.cons takeC (.cons takeC (.cons takeC (.cons takeC (.cons takeC .nil))))) ?_
      | refine fld1 ?_
      | refine call_go h1 (.one takeE) (fun o1 a1 a2 => ?_)
      | refine ld1_lit ?_
      | refine ldN_lit ?_
      | refine nw (fun n => ?_)
      | refine bld ?_
      | refine st_lit rfl ?_
      | refine need (by first | rfl | omega) ?_
      | (refine wr (fun z hz => ?_); (try rw [Int.tdiv_eq_ediv_of_nonneg (by omega)] at hz); rw [w64 (by omega) (by omega)] at hz; subst hz)
      | (refine zv (fun z hz => ?_); (try rw [Int.tmod_eq_emod_of_nonneg (by omega)] at hz); subst hz)
      | (refine ifs (fun h => ?_) (fun h => ?_) <;> (try (exfalso; first | omega | with_reducible contradiction | with_reducible exact h rfl))))
  all_goals (conv => whnf)
  all_goals exact fin_g (A := sysM _ _ o1 _ _ ++ [⟨B.vn, _⟩, ⟨c5, _⟩, ⟨c8, _⟩, ⟨c9, _⟩, ⟨c11, _⟩, ⟨c12, _⟩]) (.grp takeE (.blk takeC (.blk takeC (.blk takeC (.blk takeC (.blk takeC (.blk takeC .nil))))))) ⟨o1, a1, a2, rfl, rfl⟩
theorem copy1_f (a : RigA) (r : RigP) (o : Orc) (A : StoA) (V : StoV) (B : VA) (v : VP) (e t : Int) (b : ByteArray) (c5 c8 c9 c11 c12 : Nat) (h : Can a o A V) (q : OutR) (eq : q = putO r o.ts V e t z64) :
    Fnc Tryz.prog 75 [pt c12, pt c5, pt c8, pt c9, pt c11] (sysM a r o A V ++ [vB B A.sn v, cV c5 B.vn, cIn c8 e, cIn c9 t, cSr c11 b, cBo c12 false])
      (RetO o q.ts (fun o' => sysM a q.r o' A (q.V.fl q.e) ++ [vB B A.sn v, cV c5 B.vn, cIn c8 e, cIn c9 t, cSr c11 b, cBo c12 false]) (.int .i64 q.e)) := by
  have h1 := clear_ a r o A V e t h.ok h.att h.fl h.len
  rw [← eq] at h1
  clear eq
  refine fn_intro Tryz.func75 (by kernel_rfl) ?_
  repeat' ((conv => whnf); first
      | refine draw_any 3 [(0, true), (1, true), (2, true), (3, true), (4, true), (5, true), (6, false), (7, true)] [⟨c5, _⟩, ⟨B.vn, _⟩, ⟨c8, _⟩, ⟨c9, _⟩] rfl (by kernel_rfl) (kept_of (.cons takeC (.cons takeC (.cons takeC (.cons takeC .nil)))) ?_)
      | refine kept_of (.cons takeC (.cons takeC (.cons takeC (.cons takeC .nil)))) ?_
      | refine fld1 ?_
      | refine call_go h1 (.one takeE) (fun o1 a1 a2 => ?_)
      | refine ld1_lit ?_
      | refine ldN_lit ?_
      | refine nw (fun n => ?_)
      | refine bld ?_
      | refine st_lit rfl ?_
      | refine need (by first | rfl | omega) ?_
      | (refine wr (fun z hz => ?_); (try rw [Int.tdiv_eq_ediv_of_nonneg (by omega)] at hz); rw [w64 (by omega) (by omega)] at hz; subst hz)
      | (refine zv (fun z hz => ?_); (try rw [Int.tmod_eq_emod_of_nonneg (by omega)] at hz); subst hz)
      | (refine ifs (fun h => ?_) (fun h => ?_) <;> (try (exfalso; first | omega | with_reducible contradiction | with_reducible exact h rfl))))
  all_goals (conv => whnf)
  all_goals exact fin_g (A := sysM _ _ o1 _ _ ++ [⟨B.vn, _⟩, ⟨c5, _⟩, ⟨c8, _⟩, ⟨c9, _⟩, ⟨c11, _⟩, ⟨c12, _⟩]) (.grp takeE (.blk takeC (.blk takeC (.blk takeC (.blk takeC (.blk takeC (.blk takeC .nil))))))) ⟨o1, a1, a2, rfl, rfl⟩
/-- A Copy whose leaf is got: what is done then. -/
theorem copy_ok (a : RigA) (r : RigP) (o : Orc) (A : StoA) (V : StoV) (B : VA) (v : VP) (d l e t : Int) (h : Can a o A V) (p q : OutR) (ep : p = getO r o.ts V d l) (he : p.e = 0) (h2 : SOk ⟨A, p.V.fl 0⟩ a.rn o.on ∧ (p.V.fl 0).is.at_ = true ∧ (p.V.fl 0).failed = 0 ∧ p.ts.length ≤ 1099511610000)
    (eq : q = putO p.r p.ts (p.V.fl 0) e t (if p.is then p.s else z64)) :
    Fnc Tryz.prog 18 [pt B.vn, .int .i64 d, .int .i64 l, .int .i64 e, .int .i64 t] (sysM a r o A V ++ [vB B A.sn v])
      (RetO o q.ts (fun o' => sysM a q.r o' A (q.V.fl q.e) ++ [vB B A.sn v]) (.int .i64 q.e)) := by
  have h1 := get_ a r o A V d l h.ok h.att h.fl h.len
  rw [← ep, he] at h1
  clear ep
  obtain ⟨g1, g2, g3, g4⟩ := h2
  cases hi : p.is with
  | true =>
    rw [hi] at h1 eq
    rw [if_pos rfl] at eq
    have hc : ∀ (o1 : Orc) c5 c8 c9 c11 c12, o1.on = o.on → o1.ts = p.ts → Fnc Tryz.prog 75 [pt c12, pt c5, pt c8, pt c9, pt c11] (sysM a p.r o1 A (p.V.fl 0) ++ [vB B A.sn v, cV c5 B.vn, cIn c8 e, cIn c9 t, cSr c11 p.s, cBo c12 true])
      (RetO o1 q.ts (fun o' => sysM a q.r o' A (q.V.fl q.e) ++ [vB B A.sn v, cV c5 B.vn, cIn c8 e, cIn c9 t, cSr c11 p.s, cBo c12 true]) (.int .i64 q.e)) := fun o1 c5 c8 c9 c11 c12 e1 e2 =>
        copy1_t a p.r o1 A (p.V.fl 0) B v e t p.s c5 c8 c9 c11 c12 ⟨by rw [e1]; exact g1, g2, g3, by rw [e2]; exact g4⟩ q (by rw [e2]; exact eq)
    clear eq
    refine fn_intro Tryz.func18 (by kernel_rfl) ?_
    repeat' ((conv => whnf); first
        | refine call_go h1 (.one takeE) (fun o1 a1 a2 => ?_)
        | refine call_go (hc o1 _ _ _ _ _ a1 a2) (.grp takeE (.blk takeC (.blk takeC (.blk takeC (.blk takeC (.blk takeC (.blk takeC .nil))))))) (fun o2 b1 b2 => ?_)
        | refine ld1_lit ?_
        | refine ldN_lit ?_
        | refine nw (fun n => ?_)
        | refine bld ?_
        | refine st_lit rfl ?_
        | refine need (by first | rfl | omega) ?_
        | (refine wr (fun z hz => ?_); (try rw [Int.tdiv_eq_ediv_of_nonneg (by omega)] at hz); rw [w64 (by omega) (by omega)] at hz; subst hz)
        | (refine zv (fun z hz => ?_); (try rw [Int.tmod_eq_emod_of_nonneg (by omega)] at hz); subst hz)
        | (refine ifs (fun h => ?_) (fun h => ?_) <;> (try (exfalso; first | omega | with_reducible contradiction | with_reducible exact h rfl))))
    all_goals (conv => whnf)
    all_goals exact fin_g (A := sysM _ _ o2 _ _ ++ [⟨B.vn, _⟩]) (.grp takeE (.blk takeC .nil)) ⟨o2, by rw [b1, a1], b2, rfl, rfl⟩
  | false =>
    rw [hi] at h1 eq
    rw [if_neg (by decide)] at eq
    have hc : ∀ (o1 : Orc) c5 c8 c9 c11 c12, o1.on = o.on → o1.ts = p.ts → Fnc Tryz.prog 75 [pt c12, pt c5, pt c8, pt c9, pt c11] (sysM a p.r o1 A (p.V.fl 0) ++ [vB B A.sn v, cV c5 B.vn, cIn c8 e, cIn c9 t, cSr c11 p.s, cBo c12 false])
      (RetO o1 q.ts (fun o' => sysM a q.r o' A (q.V.fl q.e) ++ [vB B A.sn v, cV c5 B.vn, cIn c8 e, cIn c9 t, cSr c11 p.s, cBo c12 false]) (.int .i64 q.e)) := fun o1 c5 c8 c9 c11 c12 e1 e2 =>
        copy1_f a p.r o1 A (p.V.fl 0) B v e t p.s c5 c8 c9 c11 c12 ⟨by rw [e1]; exact g1, g2, g3, by rw [e2]; exact g4⟩ q (by rw [e2]; exact eq)
    clear eq
    refine fn_intro Tryz.func18 (by kernel_rfl) ?_
    repeat' ((conv => whnf); first
        | refine call_go h1 (.one takeE) (fun o1 a1 a2 => ?_)
        | refine call_go (hc o1 _ _ _ _ _ a1 a2) (.grp takeE (.blk takeC (.blk takeC (.blk takeC (.blk takeC (.blk takeC (.blk takeC .nil))))))) (fun o2 b1 b2 => ?_)
        | refine ld1_lit ?_
        | refine ldN_lit ?_
        | refine nw (fun n => ?_)
        | refine bld ?_
        | refine st_lit rfl ?_
        | refine need (by first | rfl | omega) ?_
        | (refine wr (fun z hz => ?_); (try rw [Int.tdiv_eq_ediv_of_nonneg (by omega)] at hz); rw [w64 (by omega) (by omega)] at hz; subst hz)
        | (refine zv (fun z hz => ?_); (try rw [Int.tmod_eq_emod_of_nonneg (by omega)] at hz); subst hz)
        | (refine ifs (fun h => ?_) (fun h => ?_) <;> (try (exfalso; first | omega | with_reducible contradiction | with_reducible exact h rfl))))
    all_goals (conv => whnf)
    all_goals exact fin_g (A := sysM _ _ o2 _ _ ++ [⟨B.vn, _⟩]) (.grp takeE (.blk takeC .nil)) ⟨o2, by rw [b1, a1], b2, rfl, rfl⟩
theorem copy_no (a : RigA) (r : RigP) (o : Orc) (A : StoA) (V : StoV) (B : VA) (v : VP) (d l e t : Int) (h : Can a o A V) (p : OutR) (ep : p = getO r o.ts V d l) (he : p.e ≠ 0) :
    Fnc Tryz.prog 18 [pt B.vn, .int .i64 d, .int .i64 l, .int .i64 e, .int .i64 t] (sysM a r o A V ++ [vB B A.sn v])
      (RetO o p.ts (fun o' => sysM a p.r o' A (p.V.fl p.e) ++ [vB B A.sn v]) (.int .i64 p.e)) := by
  have h1 := get_ a r o A V d l h.ok h.att h.fl h.len
  rw [← ep] at h1
  clear ep
  generalize p.e = pe at he h1
  refine fn_intro Tryz.func18 (by kernel_rfl) ?_
  repeat' ((conv => whnf); first
      | refine call_go h1 (.one takeE) (fun o1 a1 a2 => ?_)
      | refine ld1_lit ?_
      | refine ldN_lit ?_
      | refine nw (fun n => ?_)
      | refine bld ?_
      | refine st_lit rfl ?_
      | refine need (by first | rfl | omega) ?_
      | (refine wr (fun z hz => ?_); (try rw [Int.tdiv_eq_ediv_of_nonneg (by omega)] at hz); rw [w64 (by omega) (by omega)] at hz; subst hz)
      | (refine zv (fun z hz => ?_); (try rw [Int.tmod_eq_emod_of_nonneg (by omega)] at hz); subst hz)
      | (refine ifs (fun h => ?_) (fun h => ?_) <;> (try (exfalso; first | omega | with_reducible contradiction | with_reducible exact h rfl))))
  all_goals (conv => whnf)
  all_goals exact fin_g (A := sysM _ _ o1 _ _ ++ [⟨B.vn, _⟩]) (.grp takeE (.blk takeC .nil)) ⟨o1, a1, a2, rfl, rfl⟩
end Go.Proofs.YtohefdmfnllehaaGreat.Aut
