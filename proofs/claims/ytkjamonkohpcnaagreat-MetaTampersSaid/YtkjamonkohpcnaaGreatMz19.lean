/- A vault: made, its numbers. -/
import Derived.Test.YtkjamonkohpcnaaGreatMz18
import Derived.Test.YtkjamonkohpcnaaGreatMz11
import Derived.Test.YtkjamonkohpcnaaGreatMz13
namespace Go.Proofs.YtkjamonkohpcnaaGreat.Aut
open Go Ev Sha Aes Orc Node Rec Chn Jrn Cau Sto Ivs Ctr
open Rig (Fnc_takeR RigP Rg rgM z64 app_of RigA)
open Tree (TreP TreA Tre treM)
set_option linter.unusedVariables false
set_option linter.unusedSimpArgs false
set_option maxRecDepth 100000
structure VA where
  vn : Nat
  kn : Nat
  wn : Nat
structure VP where
  k : Nat → Int
  x : RwP
  n : Int
abbrev vB (B : VA) (sn : Nat) (v : VP) : Blk := ⟨B.vn, .cells [pt sn, pt B.kn, pt B.wn, .int .i64 v.n] 125⟩
def vM (B : VA) (sn : Nat) (v : VP) : List Blk := [vB B sn v, kB B.kn v.k, rwB B.wn v.x]
theorem getOK_of : ∀ {l : List Value} {n : Nat} {v : Value} {k : Value → Prop}, l[n]? = some v → k v → getOK l n k
  | [], n, v, k, h, _ => by cases h
  | a :: t, 0, v, k, h, hk => by
    have : a = v := by simpa using h
    subst this; exact hk
  | a :: t, n + 1, v, k, h, hk => getOK_of (l := t) (n := n) (by simpa using h) hk
theorem regC_iv {x : RgV} : (regC x)[65]? = some (.int .i64 x.iv) := rfl
attribute [local irreducible] dgV stC regC keyT
theorem new_ok (sn : Nat) (x : StP) (key : ByteArray) (h : key.size = 32) (hi : 1 ≤ x.g2 ∧ x.g2 ≤ 1099511627776 ∧ 0 ≤ x.is.iv ∧ x.is.iv ≤ x.g2) :
    Fnc Tryz.prog 38 [pt sn, .string key] [stB sn x] (fun e A => ∃ B : VA, e = .returned (.tuple #[pt B.vn, .int .i64 0]) ∧ A = vM B sn ⟨keyT key, ⟨x.is.iv, x.is.iv, x.g2⟩, 0⟩ ++ [stB sn x]) := by
  have h1 := new_ key h
  have h2 := reg_ sn x
  have hiv := regC_iv (x := x.is)
  obtain ⟨rl, erl⟩ : ∃ l, l = regC x.is := ⟨_, rfl⟩
  rw [← erl] at h2 hiv
  clear erl
  have h3 := geom_ sn x
  have h4 := inew x.is.iv x.g2 hi
  refine fn_intro Tryz.func38 (by kernel_rfl) ?_
  repeat' ((conv => whnf); first
      | (refine call_g h1 .nil (fun e A' hq => ?_); obtain ⟨kn, h5, h6⟩ := hq; subst h5; subst h6)
      | refine call_gr h2 (.blk takeC .nil) ?_
      | refine getOK_of hiv ?_
      | refine call_gr h3 (.blk takeC .nil) ?_
      | (refine call_g h4 .nil (fun e A' hq => ?_); obtain ⟨wn, h5, h6⟩ := hq; subst h5; subst h6)
      | refine nw (fun n => ?_)
      | refine bld ?_
      | (refine ifs (fun h => ?_) (fun h => ?_) <;> (try (exfalso; first | omega | with_reducible contradiction | with_reducible exact h rfl))))
  all_goals (conv => whnf)
  all_goals exact fin_g (A := [⟨n, _⟩, ⟨kn, _⟩, ⟨wn, _⟩, stB sn x]) (.blk takeC (.blk takeC (.blk takeC (.blk takeC .nil)))) ⟨⟨n, kn, wn⟩, rfl, rfl⟩
def numR (r : RigP) (V : StoV) (x : RwP) : RigP := if x.next < x.top then r else srF r (V.is.to (needN x)).lay
def numV (V : StoV) (x : RwP) : StoV := if x.next < x.top then V else { V with is := V.is.to (needN x), next := V.next.to (needN x) }
def numX (x : RwP) : RwP := ⟨x.next + 1, if x.next < x.top then x.top else needN x, x.many⟩
/-- What holds of a vault that has not failed. -/
structure VOk (r : RigP) (V : StoV) (x : RwP) : Prop where
  row : rowOk x
  top : V.is.iv = x.top
  reg : V.is.ok
  fine : Fine r
  ok : V.failed = 0
  att : V.is.at_ = true
theorem raiseO_ok {r : RigP} {V : StoV} {x : RwP} (h : VOk r V x) (h1 : ¬ x.next < x.top) (h2 : x.next < x.many) : raiseO r V (needN x) = (srF r (V.is.to (needN x)).lay, { V with is := V.is.to (needN x), next := V.next.to (needN x) }, 0) := by
  unfold raiseO
  rw [if_pos]
  have h3 := h.row
  have h4 := h.top
  unfold rowOk at h3
  unfold ivOk needN
  rw [if_neg (by omega)]
  omega
attribute [local irreducible] srF RgV.lay Sto.c rowK
set_option maxHeartbeats 1000000 in
theorem number_ (a : RigA) (r : RigP) (A : StoA) (V : StoV) (B : VA) (v : VP) (hrn : V.rn = a.rn) (h : VOk r V v.x) (hn : v.x.next < v.x.many) :
    Fnc Tryz.prog 185 [pt B.vn] (rgM ⟨a, r⟩ ++ [stB A.sn (Sto.c ⟨A, V⟩), vB B A.sn v, rwB B.wn v.x])
      (Ret (.tuple #[.int .i64 v.x.next, .int .i64 0]) (rgM ⟨a, numR r V v.x⟩ ++ [stB A.sn (Sto.c ⟨A, numV V v.x⟩), vB B A.sn v, rwB B.wn (numX v.x)])) := by
  have hrow := h.row
  have h1 := need_ B.wn v.x hrow
  obtain ⟨g0, g1, g2, g3⟩ := hrow
  by_cases hlt : v.x.next < v.x.top
  · rw [show needB v.x = false by unfold needB; exact decide_eq_false (by omega)] at h1
    have h2 := itake B.wn v.x h.row hlt
    rw [show numR r V v.x = r by unfold numR; rw [if_pos hlt], show numV V v.x = V by unfold numV; rw [if_pos hlt], show numX v.x = { v.x with next := v.x.next + 1 } by unfold numX; rw [if_pos hlt]]
    refine fn_intro Tryz.func185 (by kernel_rfl) ?_
    repeat' ((conv => whnf); first
        | refine call_gr h1 (.blk takeC .nil) ?_
        | refine call_gr h2 (.blk takeC .nil) ?_
        | refine ld1_lit ?_)
    all_goals (conv => whnf)
    all_goals exact fin_g (A := rgM _ ++ [⟨A.sn, _⟩, ⟨B.vn, _⟩, ⟨B.wn, _⟩]) (.grp takeG (.blk takeC (.blk takeC (.blk takeC .nil)))) ⟨rfl, rfl⟩
  · rw [show needB v.x = true by unfold needB; exact decide_eq_true (by omega)] at h1
    have hr := raise_ a r A V (needN v.x) hrn h.reg h.fine h.ok
    rw [raiseO_ok h hlt hn] at hr
    have hN : needN v.x = min (v.x.top + 16) v.x.many := by unfold needN; rw [if_neg (by omega)]
    have h2 := iraise B.wn v.x (needN v.x) (by omega)
    have h3 := itake B.wn { v.x with top := needN v.x } ⟨by show 0 ≤ v.x.next; omega, by show v.x.next ≤ needN v.x; omega, by show needN v.x ≤ v.x.many; omega, by show v.x.many ≤ _; omega⟩ (by show v.x.next < needN v.x; omega)
    rw [show numR r V v.x = srF r (V.is.to (needN v.x)).lay by unfold numR; rw [if_neg hlt], show numV V v.x = { V with is := V.is.to (needN v.x), next := V.next.to (needN v.x) } by unfold numV; rw [if_neg hlt], show numX v.x = ⟨v.x.next + 1, needN v.x, v.x.many⟩ by unfold numX; rw [if_neg hlt]]
    refine fn_intro Tryz.func185 (by kernel_rfl) ?_
    repeat' ((conv => whnf); first
        | refine call_gr h1 (.blk takeC .nil) ?_
        | refine call_gr hr (.grp takeG (.blk takeC .nil)) ?_
        | refine call_gr h2 (.blk takeC .nil) ?_
        | refine call_gr h3 (.blk takeC .nil) ?_
        | refine ld1_lit ?_
        | (refine ifs (fun h => ?_) (fun h => ?_) <;> (try (exfalso; first | omega | with_reducible contradiction | with_reducible exact h rfl))))
    all_goals (conv => whnf)
    all_goals exact fin_g (A := rgM _ ++ [⟨A.sn, _⟩, ⟨B.vn, _⟩, ⟨B.wn, _⟩]) (.grp takeG (.blk takeC (.blk takeC (.blk takeC .nil)))) ⟨rfl, rfl⟩
def sealX (v : VP) : VP := ⟨v.k, numX v.x, v.n + 1⟩
def sealB (v : VP) (s : ByteArray) : ByteArray := layB v.x.next 1 (cry v.k v.x.next s)
theorem num_ok {r : RigP} {V : StoV} {x : RwP} (h : VOk r V x) (hn : x.next < x.many) : numOk x.next := by
  have := h.row; unfold rowOk at this; unfold numOk; omega
theorem seal_go (a : RigA) (r : RigP) (A : StoA) (V : StoV) (B : VA) (v : VP) (s : ByteArray) (hrn : V.rn = a.rn) (h : VOk r V v.x) (hn : v.x.next < v.x.many) (hk : ∀ i, by8 (v.k i)) (hs : s.size = 48) (hv : 0 ≤ v.n ∧ v.n < 1099511627776) :
    Fnc Tryz.prog 133 [pt B.vn, .string s] (rgM ⟨a, r⟩ ++ (stB A.sn (Sto.c ⟨A, V⟩) :: vM B A.sn v))
      (Ret (.tuple #[.string (sealB v s), .int .i64 0]) (rgM ⟨a, numR r V v.x⟩ ++ (stB A.sn (Sto.c ⟨A, numV V v.x⟩) :: vM B A.sn (sealX v)))) := by
  have h1 := failed_ A.sn (Sto.c ⟨A, V⟩) (by unfold Sto.c; exact h.ok)
  have h2 := number_ a r A V B v hrn h hn
  have h3 := seal_ B.kn v.k v.x.next s hk (num_ok h hn) hs
  unfold vM
  refine fn_intro Tryz.func133 (by kernel_rfl) ?_
  repeat' ((conv => whnf); first
      | refine call_gr h1 (.blk takeC .nil) ?_
      | refine call_gr h2 (.grp takeG (.blk takeC (.blk takeC (.blk takeC .nil)))) ?_
      | refine call_gr h3 (.blk takeC .nil) ?_
      | refine ld1_lit ?_
      | refine st_lit rfl ?_
      | refine need (by first | rfl | omega) ?_
      | (refine wr (fun z hz => ?_); (try rw [Int.tdiv_eq_ediv_of_nonneg (by omega)] at hz); rw [w64 (by omega) (by omega)] at hz; subst hz)
      | (refine ifs (fun h => ?_) (fun h => ?_) <;> (try (exfalso; first | omega | with_reducible contradiction | with_reducible exact h rfl))))
  all_goals (conv => whnf)
  all_goals exact fin_g (A := rgM _ ++ [⟨A.sn, _⟩, ⟨B.vn, _⟩, ⟨B.kn, _⟩, ⟨B.wn, _⟩]) (.grp takeG (.blk takeC (.blk takeC (.blk takeC (.blk takeC .nil))))) ⟨rfl, rfl⟩
end Go.Proofs.YtkjamonkohpcnaaGreat.Aut
/- A vault's calls. -/
namespace Go.Proofs.YtkjamonkohpcnaaGreat.Aut
open Go Ev Sha Aes Orc Node Rec Chn Jrn Cau Sto Ivs Ctr
open Rig (Fnc_takeR RigP Rg rgM z64 app_of RigA)
open Tree (TreP TreA Tre treM)
set_option linter.unusedVariables false
set_option linter.unusedSimpArgs false
set_option maxRecDepth 100000
attribute [local irreducible] srF RgV.lay Sto.c rowK sysM z64 getO putO bodyS kdE kdN kdK
theorem store_ (B : VA) (sn : Nat) (v : VP) : Fnc Tryz.prog 21 [pt B.vn] [vB B sn v] (Ret (pt sn) [vB B sn v]) := by
  refine fn_intro Tryz.func21 (by kernel_rfl) ?_
  repeat' ((conv => whnf); first
      | refine ld1_lit ?_)
  all_goals (conv => whnf)
  all_goals exact fin_all ⟨rfl, rfl⟩
theorem sealed_ (B : VA) (sn : Nat) (v : VP) : Fnc Tryz.prog 72 [pt B.vn] [vB B sn v] (Ret (.int .i64 v.n) [vB B sn v]) := by
  refine fn_intro Tryz.func72 (by kernel_rfl) ?_
  repeat' ((conv => whnf); first
      | refine ld1_lit ?_)
  all_goals (conv => whnf)
  all_goals exact fin_all ⟨rfl, rfl⟩
theorem left_ (B : VA) (sn : Nat) (v : VP) (h : rowOk v.x) : Fnc Tryz.prog 73 [pt B.vn] [vB B sn v, rwB B.wn v.x] (Ret (.int .i64 (v.x.many - v.x.next)) [vB B sn v, rwB B.wn v.x]) := by
  have h1 := ileft B.wn v.x h
  refine fn_intro Tryz.func73 (by kernel_rfl) ?_
  repeat' ((conv => whnf); first
      | refine call_gr h1 (.blk takeC .nil) ?_
      | refine ld1_lit ?_)
  all_goals (conv => whnf)
  all_goals exact fin_g (A := [⟨B.vn, _⟩, ⟨B.wn, _⟩]) (.blk takeC (.blk takeC .nil)) ⟨rfl, rfl⟩
/-- A store's call on a vault. -/
structure Can (a : RigA) (o : Orc) (A : StoA) (V : StoV) : Prop where
  ok : SOk ⟨A, V⟩ a.rn o.on
  att : V.is.at_ = true
  fl : V.failed = 0
  len : o.ts.length ≤ 1099511610000
theorem setv (a : RigA) (r : RigP) (o : Orc) (A : StoA) (V : StoV) (B : VA) (v : VP) (d l : Int) (s : ByteArray) (h : Can a o A V) (hk : kdOk s) :
    Fnc Tryz.prog 134 [pt B.vn, .int .i64 d, .int .i64 l, .string s] (sysM a r o A V ++ [vB B A.sn v])
      (RetO o (putO r o.ts V d l s).ts (fun o' => sysM a (putO r o.ts V d l s).r o' A ((putO r o.ts V d l s).V.fl (putO r o.ts V d l s).e) ++ [vB B A.sn v]) (.int .i64 (putO r o.ts V d l s).e)) := by
  have h1 := put_ a r o A V d l s h.ok h.att h.fl h.len
  have h2 := kind_ s (by have := hk.1; omega)
  rw [show kdE s = 0 by unfold kdE; rw [if_pos hk]] at h2
  refine fn_intro Tryz.func134 (by kernel_rfl) ?_
  repeat' ((conv => whnf); first
      | refine call_val h2 ?_
      | refine call_go h1 (.one takeE) (fun o1 a1 a2 => ?_)
      | refine ld1_lit ?_
      | (refine ifs (fun h => ?_) (fun h => ?_) <;> (try (exfalso; first | omega | with_reducible contradiction | with_reducible exact h rfl))))
  all_goals (conv => whnf)
  all_goals exact fin_g (A := sysM _ _ o1 _ _ ++ [⟨B.vn, _⟩]) (.grp takeE (.blk takeC .nil)) ⟨o1, a1, a2, rfl, rfl⟩
theorem num0 : numOk 0 := ⟨by omega, by omega⟩
theorem plain_ (a : RigA) (r : RigP) (o : Orc) (A : StoA) (V : StoV) (B : VA) (v : VP) (d l : Int) (s : ByteArray) (h : Can a o A V) (hs : s.size = 48) :
    Fnc Tryz.prog 20 [pt B.vn, .int .i64 d, .int .i64 l, .string s] (sysM a r o A V ++ [vB B A.sn v])
      (RetO o (putO r o.ts V d l (layB 0 2 s)).ts (fun o' => sysM a (putO r o.ts V d l (layB 0 2 s)).r o' A ((putO r o.ts V d l (layB 0 2 s)).V.fl (putO r o.ts V d l (layB 0 2 s)).e) ++ [vB B A.sn v]) (.int .i64 (putO r o.ts V d l (layB 0 2 s)).e)) := by
  have h1 := put_ a r o A V d l (layB 0 2 s) h.ok h.att h.fl h.len
  have h2 := clay 0 s num0 hs
  refine fn_intro Tryz.func20 (by kernel_rfl) ?_
  repeat' ((conv => whnf); first
      | refine call_val h2 ?_
      | refine call_go h1 (.one takeE) (fun o1 a1 a2 => ?_)
      | refine ld1_lit ?_
      | (refine ifs (fun h => ?_) (fun h => ?_) <;> (try (exfalso; first | omega | with_reducible contradiction | with_reducible exact h rfl))))
  all_goals (conv => whnf)
  all_goals exact fin_g (A := sysM _ _ o1 _ _ ++ [⟨B.vn, _⟩]) (.grp takeE (.blk takeC .nil)) ⟨o1, a1, a2, rfl, rfl⟩
def z48 : ByteArray := str (List.replicate 48 0)
/-- What a Get's answer is as data. -/
def readS (k : Nat → Int) (q : OutR) : ByteArray := if q.e ≠ 0 then ByteArray.empty else if q.is = false then z48 else bodyS k q.s
theorem readv (a : RigA) (r : RigP) (o : Orc) (A : StoA) (V : StoV) (B : VA) (v : VP) (d l : Int) (h : Can a o A V) (hb : ∀ i, by8 (v.k i)) (q : OutR) (eq : q = getO r o.ts V d l) (hk : q.e = 0 → q.is = true → kdOk q.s) :
    Fnc Tryz.prog 32 [pt B.vn, .int .i64 d, .int .i64 l] (sysM a r o A V ++ [vB B A.sn v, kB B.kn v.k])
      (RetO o q.ts (fun o' => sysM a q.r o' A (q.V.fl q.e) ++ [vB B A.sn v, kB B.kn v.k]) (.tuple #[.string (readS v.k q), .int .i64 q.e])) := by
  have h1 := get_ a r o A V d l h.ok h.att h.fl h.len
  rw [← eq] at h1
  clear eq
  by_cases he : q.e = 0
  · rw [he] at h1 ⊢
    by_cases hi : q.is = false
    · rw [hi] at h1
      rw [show readS v.k q = z48 by unfold readS; rw [if_neg (by simp [he]), if_pos hi]]
      have hz : str (List.replicate 48 0) = z48 := by unfold z48; rfl
      refine fn_intro Tryz.func32 (by kernel_rfl) ?_
      repeat' ((conv => whnf); first
          | refine call_go h1 (.one takeE) (fun o1 a1 a2 => ?_)
          | refine mk_row rfl rfl rfl rfl rfl (by decide) (by decide) (by decide) (fun n => ?_)
          | (refine b2s_row (t := 5) (l := List.replicate 48 0) (junk := []) (by simp [u8s]) rfl rfl rfl (by simp) ?_; rw [hz])
          | refine ld1_lit ?_
          | (refine ifs (fun h => ?_) (fun h => ?_) <;> (try (exfalso; first | omega | with_reducible contradiction | with_reducible exact h rfl))))
      all_goals (conv => whnf)
      all_goals exact fin_g (A := sysM _ _ o1 _ _ ++ [⟨B.vn, _⟩, ⟨B.kn, _⟩]) (.grp takeE (.blk takeC (.blk takeC .nil))) ⟨o1, a1, a2, rfl, rfl⟩
    · have hi' : q.is = true := by simpa using hi
      rw [hi'] at h1
      rw [show readS v.k q = bodyS v.k q.s by unfold readS; rw [if_neg (by simp [he]), if_neg hi]]
      have h2 := unseal_ B.kn v.k q.s hb (hk he hi')
      refine fn_intro Tryz.func32 (by kernel_rfl) ?_
      repeat' ((conv => whnf); first
          | refine call_go h1 (.one takeE) (fun o1 a1 a2 => ?_)
          | refine call_gr h2 (.blk takeC .nil) ?_
          | refine ld1_lit ?_
          | (refine ifs (fun h => ?_) (fun h => ?_) <;> (try (exfalso; first | omega | with_reducible contradiction | with_reducible exact h rfl))))
      all_goals (conv => whnf)
      all_goals exact fin_g (A := sysM _ _ o1 _ _ ++ [⟨B.vn, _⟩, ⟨B.kn, _⟩]) (.grp takeE (.blk takeC (.blk takeC .nil))) ⟨o1, a1, a2, rfl, rfl⟩
  · rw [show readS v.k q = ByteArray.empty by unfold readS; rw [if_pos he]]
    generalize q.e = e at he h1
    refine fn_intro Tryz.func32 (by kernel_rfl) ?_
    repeat' ((conv => whnf); first
        | refine call_go h1 (.one takeE) (fun o1 a1 a2 => ?_)
        | refine ld1_lit ?_
        | (refine ifs (fun h => ?_) (fun h => ?_) <;> (try (exfalso; first | omega | with_reducible contradiction | with_reducible exact h rfl))))
    all_goals (conv => whnf)
    all_goals exact fin_g (A := sysM _ _ o1 _ _ ++ [⟨B.vn, _⟩, ⟨B.kn, _⟩]) (.grp takeE (.blk takeC (.blk takeC .nil))) ⟨o1, a1, a2, rfl, rfl⟩
end Go.Proofs.YtkjamonkohpcnaaGreat.Aut
/- A vault: Write, Copy. -/
namespace Go.Proofs.YtkjamonkohpcnaaGreat.Aut
open Go Ev Sha Aes Orc Node Rec Chn Jrn Cau Sto Ivs Ctr
open Rig (Fnc_takeR RigP Rg rgM z64 app_of RigA)
open Tree (TreP TreA Tre treM)
set_option linter.unusedVariables false
set_option linter.unusedSimpArgs false
set_option maxRecDepth 100000
theorem sys_open (a : RigA) (r : RigP) (o : Orc) (A : StoA) (V : StoV) : sysM a r o A V = rgM ⟨a, r⟩ ++ (orcM o ++ (stB A.sn (Sto.c ⟨A, V⟩) :: stoR ⟨A, V⟩)) := rfl
theorem stoR_num (A : StoA) (V : StoV) (x : RwP) : stoR ⟨A, numV V x⟩ = stoR ⟨A, V⟩ := by unfold numV; split <;> rfl
theorem sok_num {A : StoA} {V : StoV} {rn on : Nat} (h : SOk ⟨A, V⟩ rn on) (x : RwP) : SOk ⟨A, numV V x⟩ rn on := by
  unfold numV; split
  · exact h
  · exact ⟨h.rn, h.on, h.r0, h.o0, h.r1, h.o1⟩
theorem can_num {a : RigA} {o : Orc} {A : StoA} {V : StoV} (h : Can a o A V) (x : RwP) : Can a o A (numV V x) :=
  ⟨sok_num h.ok x, by unfold numV; split <;> exact h.att, by unfold numV; split <;> exact h.fl, h.len⟩
theorem sealB_ok {r : RigP} {V : StoV} {v : VP} (h : VOk r V v.x) (hn : v.x.next < v.x.many) {s : ByteArray} (hs : s.size = 48) : kdOk (sealB v s) := (layB_ok (num_ok h hn) (.inl rfl) (cry_size _ _ _ hs)).1
attribute [local irreducible] srF RgV.lay Sto.c rowK z64 getO putO bodyS kdE kdN kdK stoR sealB numR numV
theorem write_ (a : RigA) (r : RigP) (o : Orc) (A : StoA) (V : StoV) (B : VA) (v : VP) (d l : Int) (s : ByteArray) (h : Can a o A V) (hv : VOk r V v.x) (hn : v.x.next < v.x.many) (hk : ∀ i, by8 (v.k i)) (hs : s.size = 48) (hc : 0 ≤ v.n ∧ v.n < 1099511627776)
    (q : OutR) (eq : q = putO (numR r V v.x) o.ts (numV V v.x) d l (sealB v s)) :
    Fnc Tryz.prog 70 [pt B.vn, .int .i64 d, .int .i64 l, .string s] (sysM a r o A V ++ vM B A.sn v)
      (RetO o q.ts (fun o' => sysM a q.r o' A (q.V.fl q.e) ++ vM B A.sn (sealX v)) (.int .i64 q.e)) := by
  have h1 := seal_go a r A V B v s h.ok.rn hv hn hk hs hc
  have h2 := setv a (numR r V v.x) o A (numV V v.x) B (sealX v) d l (sealB v s) (can_num h v.x) (sealB_ok hv hn hs)
  rw [← eq] at h2
  clear eq
  rw [sys_open, stoR_num] at h2
  simp only [List.append_assoc, List.cons_append, List.nil_append] at h2
  rw [sys_open]
  unfold vM at h1 ⊢
  refine fn_intro Tryz.func70 (by kernel_rfl) ?_
  repeat' ((conv => whnf); first
      | refine call_gr h1 (.grp takeG (.blk takeC (.blk takeC (.blk takeC (.blk takeC .nil))))) ?_
      | refine call_go h2 (.grp takeG (.grp takeG (.blk takeC (.grp takeE (.blk takeC .nil))))) (fun o1 a1 a2 => ?_)
      | (refine ifs (fun h => ?_) (fun h => ?_) <;> (try (exfalso; first | omega | with_reducible contradiction | with_reducible exact h rfl))))
  all_goals (conv => whnf)
  all_goals exact fin_g (A := sysM _ _ o1 _ _ ++ [⟨B.vn, _⟩, ⟨B.kn, _⟩, ⟨B.wn, _⟩]) (.grp takeE (.blk takeC (.blk takeC (.blk takeC .nil)))) ⟨o1, a1, a2, rfl, rfl⟩
abbrev cV (c vn : Nat) : Blk := ⟨c, .cells [pt vn] 50⟩
theorem copy1_t (a : RigA) (r : RigP) (o : Orc) (A : StoA) (V : StoV) (B : VA) (v : VP) (e t : Int) (b : ByteArray) (c5 c8 c9 c11 c12 : Nat) (h : Can a o A V) (q : OutR) (eq : q = putO r o.ts V e t b) :
    Fnc Tryz.prog 135 [pt c12, pt c5, pt c8, pt c9, pt c11] (sysM a r o A V ++ [vB B A.sn v, cV c5 B.vn, cIn c8 e, cIn c9 t, cSr c11 b, cBo c12 true])
      (RetO o q.ts (fun o' => sysM a q.r o' A (q.V.fl q.e) ++ [vB B A.sn v, cV c5 B.vn, cIn c8 e, cIn c9 t, cSr c11 b, cBo c12 true]) (.int .i64 q.e)) := by
  have h1 := put_ a r o A V e t b h.ok h.att h.fl h.len
  rw [← eq] at h1
  clear eq
  refine fn_intro Tryz.func135 (by kernel_rfl) ?_
  repeat' ((conv => whnf); first
      | refine draw_any 2 [(0, true), (1, true), (2, true), (3, true), (4, true), (5, true), (6, true), (7, false), (8, true)] [⟨c5, _⟩, ⟨B.vn, _⟩, ⟨c8, _⟩, ⟨c9, _⟩, ⟨c11, _⟩] rfl (by kernel_rfl) (kept_of (.cons takeC (.cons takeC (.cons takeC (.cons takeC (.cons takeC .nil))))) ?_)
      | refine kept_of (.cons takeC (.cons takeC (.cons takeC (.cons takeC (.cons takeC .nil))))) ?_
      | refine fld1 ?_
      | refine call_go h1 (.one takeE) (fun o1 a1 a2 => ?_)
      | refine ld1_lit ?_)
  all_goals (conv => whnf)
  all_goals exact fin_g (A := sysM _ _ o1 _ _ ++ [⟨B.vn, _⟩, ⟨c5, _⟩, ⟨c8, _⟩, ⟨c9, _⟩, ⟨c11, _⟩, ⟨c12, _⟩]) (.grp takeE (.blk takeC (.blk takeC (.blk takeC (.blk takeC (.blk takeC (.blk takeC .nil))))))) ⟨o1, a1, a2, rfl, rfl⟩
theorem copy1_f (a : RigA) (r : RigP) (o : Orc) (A : StoA) (V : StoV) (B : VA) (v : VP) (e t : Int) (b : ByteArray) (c5 c8 c9 c11 c12 : Nat) (h : Can a o A V) (q : OutR) (eq : q = putO r o.ts V e t z64) :
    Fnc Tryz.prog 135 [pt c12, pt c5, pt c8, pt c9, pt c11] (sysM a r o A V ++ [vB B A.sn v, cV c5 B.vn, cIn c8 e, cIn c9 t, cSr c11 b, cBo c12 false])
      (RetO o q.ts (fun o' => sysM a q.r o' A (q.V.fl q.e) ++ [vB B A.sn v, cV c5 B.vn, cIn c8 e, cIn c9 t, cSr c11 b, cBo c12 false]) (.int .i64 q.e)) := by
  have h1 := clear_ a r o A V e t h.ok h.att h.fl h.len
  rw [← eq] at h1
  clear eq
  refine fn_intro Tryz.func135 (by kernel_rfl) ?_
  repeat' ((conv => whnf); first
      | refine draw_any 3 [(0, true), (1, true), (2, true), (3, true), (4, true), (5, true), (6, false), (7, true)] [⟨c5, _⟩, ⟨B.vn, _⟩, ⟨c8, _⟩, ⟨c9, _⟩] rfl (by kernel_rfl) (kept_of (.cons takeC (.cons takeC (.cons takeC (.cons takeC .nil)))) ?_)
      | refine kept_of (.cons takeC (.cons takeC (.cons takeC (.cons takeC .nil)))) ?_
      | refine fld1 ?_
      | refine call_go h1 (.one takeE) (fun o1 a1 a2 => ?_)
      | refine ld1_lit ?_)
  all_goals (conv => whnf)
  all_goals exact fin_g (A := sysM _ _ o1 _ _ ++ [⟨B.vn, _⟩, ⟨c5, _⟩, ⟨c8, _⟩, ⟨c9, _⟩, ⟨c11, _⟩, ⟨c12, _⟩]) (.grp takeE (.blk takeC (.blk takeC (.blk takeC (.blk takeC (.blk takeC (.blk takeC .nil))))))) ⟨o1, a1, a2, rfl, rfl⟩
/-- A Copy whose leaf is got: what is done then. -/
theorem copy_ok (a : RigA) (r : RigP) (o : Orc) (A : StoA) (V : StoV) (B : VA) (v : VP) (d l e t : Int) (h : Can a o A V) (p q : OutR) (ep : p = getO r o.ts V d l) (he : p.e = 0) (h2 : SOk ⟨A, p.V.fl 0⟩ a.rn o.on ∧ (p.V.fl 0).is.at_ = true ∧ (p.V.fl 0).failed = 0 ∧ p.ts.length ≤ 1099511610000)
    (eq : q = putO p.r p.ts (p.V.fl 0) e t (if p.is then p.s else z64)) :
    Fnc Tryz.prog 71 [pt B.vn, .int .i64 d, .int .i64 l, .int .i64 e, .int .i64 t] (sysM a r o A V ++ [vB B A.sn v])
      (RetO o q.ts (fun o' => sysM a q.r o' A (q.V.fl q.e) ++ [vB B A.sn v]) (.int .i64 q.e)) := by
  have h1 := get_ a r o A V d l h.ok h.att h.fl h.len
  rw [← ep, he] at h1
  clear ep
  obtain ⟨g1, g2, g3, g4⟩ := h2
  cases hi : p.is with
  | true =>
    rw [hi] at h1 eq
    rw [if_pos rfl] at eq
    have hc : ∀ (o1 : Orc) c5 c8 c9 c11 c12, o1.on = o.on → o1.ts = p.ts → Fnc Tryz.prog 135 [pt c12, pt c5, pt c8, pt c9, pt c11] (sysM a p.r o1 A (p.V.fl 0) ++ [vB B A.sn v, cV c5 B.vn, cIn c8 e, cIn c9 t, cSr c11 p.s, cBo c12 true])
      (RetO o1 q.ts (fun o' => sysM a q.r o' A (q.V.fl q.e) ++ [vB B A.sn v, cV c5 B.vn, cIn c8 e, cIn c9 t, cSr c11 p.s, cBo c12 true]) (.int .i64 q.e)) := fun o1 c5 c8 c9 c11 c12 e1 e2 =>
        copy1_t a p.r o1 A (p.V.fl 0) B v e t p.s c5 c8 c9 c11 c12 ⟨by rw [e1]; exact g1, g2, g3, by rw [e2]; exact g4⟩ q (by rw [e2]; exact eq)
    clear eq
    refine fn_intro Tryz.func71 (by kernel_rfl) ?_
    repeat' ((conv => whnf); first
        | refine call_go h1 (.one takeE) (fun o1 a1 a2 => ?_)
        | refine call_go (hc o1 _ _ _ _ _ a1 a2) (.grp takeE (.blk takeC (.blk takeC (.blk takeC (.blk takeC (.blk takeC (.blk takeC .nil))))))) (fun o2 b1 b2 => ?_)
        | refine ld1_lit ?_
        | refine nw (fun n => ?_)
        | refine st_lit rfl ?_
        | refine need (by first | rfl | omega) ?_
        | (refine ifs (fun h => ?_) (fun h => ?_) <;> (try (exfalso; first | omega | with_reducible contradiction | with_reducible exact h rfl))))
    all_goals (conv => whnf)
    all_goals exact fin_g (A := sysM _ _ o2 _ _ ++ [⟨B.vn, _⟩]) (.grp takeE (.blk takeC .nil)) ⟨o2, by rw [b1, a1], b2, rfl, rfl⟩
  | false =>
    rw [hi] at h1 eq
    rw [if_neg (by decide)] at eq
    have hc : ∀ (o1 : Orc) c5 c8 c9 c11 c12, o1.on = o.on → o1.ts = p.ts → Fnc Tryz.prog 135 [pt c12, pt c5, pt c8, pt c9, pt c11] (sysM a p.r o1 A (p.V.fl 0) ++ [vB B A.sn v, cV c5 B.vn, cIn c8 e, cIn c9 t, cSr c11 p.s, cBo c12 false])
      (RetO o1 q.ts (fun o' => sysM a q.r o' A (q.V.fl q.e) ++ [vB B A.sn v, cV c5 B.vn, cIn c8 e, cIn c9 t, cSr c11 p.s, cBo c12 false]) (.int .i64 q.e)) := fun o1 c5 c8 c9 c11 c12 e1 e2 =>
        copy1_f a p.r o1 A (p.V.fl 0) B v e t p.s c5 c8 c9 c11 c12 ⟨by rw [e1]; exact g1, g2, g3, by rw [e2]; exact g4⟩ q (by rw [e2]; exact eq)
    clear eq
    refine fn_intro Tryz.func71 (by kernel_rfl) ?_
    repeat' ((conv => whnf); first
        | refine call_go h1 (.one takeE) (fun o1 a1 a2 => ?_)
        | refine call_go (hc o1 _ _ _ _ _ a1 a2) (.grp takeE (.blk takeC (.blk takeC (.blk takeC (.blk takeC (.blk takeC (.blk takeC .nil))))))) (fun o2 b1 b2 => ?_)
        | refine ld1_lit ?_
        | refine nw (fun n => ?_)
        | refine st_lit rfl ?_
        | refine need (by first | rfl | omega) ?_
        | (refine ifs (fun h => ?_) (fun h => ?_) <;> (try (exfalso; first | omega | with_reducible contradiction | with_reducible exact h rfl))))
    all_goals (conv => whnf)
    all_goals exact fin_g (A := sysM _ _ o2 _ _ ++ [⟨B.vn, _⟩]) (.grp takeE (.blk takeC .nil)) ⟨o2, by rw [b1, a1], b2, rfl, rfl⟩
end Go.Proofs.YtkjamonkohpcnaaGreat.Aut
/- Trees: plain laws of what the walks compute. -/
namespace Go.Proofs.YtkjamonkohpcnaaGreat.Tree
open Go Ev Sha Aes Orc Node Jrn
open Rig (RigP Rg rgM readR writeR z64 app_of)
set_option linter.unusedVariables false
set_option linter.unusedSimpArgs false
theorem getS_set (k : Int) (s : ByteArray) : ∀ (l : List (Int × ByteArray)) (j : Int), getS (setS l k s) j = if j = k then some s else getS l j
  | [], j => by simp only [setS, getS]
  | (a, u) :: t, j => by
    unfold setS
    by_cases h : k = a
    · rw [if_pos h]; subst h
      simp only [getS]
      by_cases hj : j = k
      · rw [if_pos hj, if_pos hj]
      · rw [if_neg hj, if_neg hj, if_neg hj]
    · rw [if_neg h]
      simp only [getS]
      rw [getS_set k s t j]
      by_cases hj : j = a
      · rw [if_pos hj, if_pos hj, if_neg (by omega)]
      · rw [if_neg hj, if_neg hj]
theorem setS_len (k : Int) (s : ByteArray) : ∀ (l : List (Int × ByteArray)), (setS l k s).length ≤ l.length + 1
  | [] => by simp [setS]
  | (a, u) :: t => by
    unfold setS
    split
    · simp
    · have := setS_len k s t
      simp only [List.length_cons]; omega
/-- The sum of a node, or of a leaf (63 on). -/
noncomputable def dg (F f : Nat → ByteArray) (m : Nat) : Dg := if m < 63 then D (p1 (F m)) else D (p0 (f (m - 63)))
/-- What a tree's parts are: F the nodes, f the leaves. -/
structure TI (r : RigP) (t : TreP) (F f : Nat → ByteArray) : Prop where
  d : t.d = 0 ∨ t.d = 1
  sz : ∀ n, n < 63 → (F n).size = 64
  fsz : ∀ n, n < 64 → (f n).size = 64
  root : t.root = D (p1 (F 0))
  kid : ∀ n s, n < 63 → s ≤ 1 → dl (splitD (F n) s) = dl (dg F f (2 * n + 1 + s))
  known : ∀ (n : Nat) s, n < 63 → getS t.known n = some s → s = F n
  dev : ∀ (n : Nat), n < 63 → getS t.known n = none → ((r.dev t.d) (161 + n)).now = F n
  sheet : ∀ (n : Nat) s, n < 64 → getS t.sheet (224 + n : Nat) = some s → s = f n
  leaf : ∀ (n : Nat), n < 64 → getS t.sheet (224 + n : Nat) = none → ((r.dev t.d) (224 + n)).now = f n
/-- The devices are as they were. -/
def Same (r r' : RigP) : Prop := r'.d0 = r.d0 ∧ r'.d1 = r.d1
theorem Same.dev {r r' : RigP} (h : Same r r') (d : Int) : r'.dev d = r.dev d := by unfold Rig.RigP.dev; rw [h.1, h.2]
theorem Same.trans {r r' r'' : RigP} (h : Same r r') (h' : Same r' r'') : Same r r'' := ⟨h'.1.trans h.1, h'.2.trans h.2⟩
theorem Same.refl (r : RigP) : Same r r := ⟨rfl, rfl⟩
theorem TI.same {r r' : RigP} {t : TreP} {F f : Nat → ByteArray} (h : TI r t F f) (hs : Same r r') : TI r' t F f :=
  ⟨h.d, h.sz, h.fsz, h.root, h.kid, h.known, fun n hn hk => by rw [hs.dev]; exact h.dev n hn hk, h.sheet, fun n hn hk => by rw [hs.dev]; exact h.leaf n hn hk⟩
theorem fine_read {r : RigP} (h : Fine r) {d : Int} {i : Nat} (hd : d = 0 ∨ d = 1) (hi : i < 288) : readR r d i = (ticked r, ((r.dev d) i).now, 0) := by
  unfold readR
  rw [mayE_ok hd (by omega) (by omega), if_neg (by simp), h.tick]
  rfl
theorem same_tick (r : RigP) : Same r (ticked r) := ⟨rfl, rfl⟩
theorem readT_ok {sf : List ByteArray → ByteArray → List ByteArray × Dg} {r : RigP} (h : Fine r) {d : Int} {i : Nat} (hd : d = 0 ∨ d = 1) (hi : i < 288) (ts : List ByteArray) {want : Dg} (hw : dl (sf ts ((r.dev d) i).now).2 = dl want) :
    readT sf r ts d i want = (ticked r, (sf ts ((r.dev d) i).now).1, ((r.dev d) i).now, 0) := by
  unfold readT
  rw [fine_read h hd hi]
  simp only
  rw [if_neg (by simp), if_pos hw]
/-- A node is got. -/
theorem nodeT_ok {r : RigP} {ts : List ByteArray} {t : TreP} {F f : Nat → ByteArray} (h : TI r t F f) (hf : Fine r) {n : Nat} (hn : n < 63) {want : Dg} (hw : dl want = dl (D (p1 (F n)))) :
    (nodeT r ts t n want).e = 0 ∧ (nodeT r ts t n want).s = F n ∧ Fine (nodeT r ts t n want).r ∧ Same r (nodeT r ts t n want).r ∧ TI (nodeT r ts t n want).r (nodeT r ts t n want).t F f ∧ (nodeT r ts t n want).t.sheet = t.sheet ∧ (nodeT r ts t n want).ts.length ≤ ts.length + 1 ∧ (nodeT r ts t n want).t.d = t.d := by
  unfold nodeT
  cases hk : getS t.known n with
  | some s => exact ⟨rfl, h.known n s hn hk, hf, Same.refl r, h, rfl, Nat.le_succ _, rfl⟩
  | none =>
    have hd := h.dev n hn hk
    have hz := h.sz n hn
    have hr := readT_ok (sf := nodeD) hf h.d (i := 161 + n) (by omega) ts (want := want) (by rw [hd, nodeD_ok hz]; exact hw.symm)
    simp only
    rw [hr, hd]
    simp only [if_true]
    refine ⟨trivial, trivial, hf.ticked, same_tick r, ?_, trivial, ?_, trivial⟩
    · have h' := h.same (same_tick r)
      refine ⟨h'.d, h'.sz, h'.fsz, h'.root, h'.kid, fun m s hm hg => ?_, fun m hm hg => ?_, h'.sheet, h'.leaf⟩
      · simp only at hg
        rw [getS_set] at hg
        by_cases e : (m : Int) = n
        · rw [if_pos e] at hg
          have : m = n := by omega
          subst this
          exact (Option.some.inj hg).symm
        · rw [if_neg e] at hg; exact h.known m s hm hg
      · simp only at hg
        rw [getS_set] at hg
        by_cases e : (m : Int) = n
        · rw [if_pos e] at hg; cases hg
        · rw [if_neg e] at hg; exact h'.dev m hm hg
    · rw [nodeD_ok hz]; exact addT_len _ _
theorem at_kid {l i : Nat} (hl : l < 64) (hi : i < 6) : at_ l i = 2 * at_ l (i + 1) + 1 + side l i := by
  have h1 := at_s l i
  have h2 := at_pos hl hi
  unfold side
  omega
/-- What is known after k steps down. -/
structure DnI (r0 : RigP) (ts0 : List ByteArray) (t0 : TreP) (F f : Nat → ByteArray) (leaf k : Nat) (p : DnP) : Prop where
  e : p.e = 0
  fine : Fine p.r
  same : Same r0 p.r
  ti : TI p.r p.t F f
  sheet : p.t.sheet = t0.sheet
  d : p.t.d = t0.d
  len : p.ts.length ≤ ts0.length + k
  sum : dl p.sum = dl (dg F f (at_ leaf (6 - k)))
  l : ∀ i, 6 - k ≤ i → i < 6 → p.l i = F (at_ leaf (i + 1))
theorem dn_ok {r : RigP} {ts : List ByteArray} {t : TreP} {F f : Nat → ByteArray} (h : TI r t F f) (hf : Fine r) {leaf : Nat} (hl : leaf < 64) : ∀ k, k ≤ 6 → DnI r ts t F f leaf k (dn leaf (dn0 r ts t) k)
  | 0, _ => by
    refine ⟨rfl, hf, Same.refl r, h, rfl, rfl, Nat.le_refl _, ?_, fun i h1 h2 => by omega⟩
    show dl t.root = dl (dg F f (at_ leaf 6))
    rw [at_6 hl, h.root]; rfl
  | k + 1, hk => by
    have ih := dn_ok (ts := ts) h hf hl k (by omega)
    rw [dn_s ih.e]
    obtain ⟨p, ep⟩ : ∃ p, p = dn leaf (dn0 r ts t) k := ⟨_, rfl⟩
    rw [← ep] at ih ⊢
    clear ep
    have e6 : 6 - k = 5 - k + 1 := by omega
    have hn : at_ leaf (5 - k + 1) < 63 := at_node hl (by omega)
    have hs := ih.sum
    rw [e6] at hs
    have hn2 := nodeT_ok (ts := p.ts) ih.ti ih.fine hn (want := p.sum) (by rw [hs]; unfold dg; rw [if_pos hn])
    obtain ⟨n1, n2, n3, n4, n5, n6, n7, n8⟩ := hn2
    unfold dnS
    refine ⟨n1, n3, ih.same.trans n4, n5, n6.trans ih.sheet, n8.trans ih.d, ?_, ?_, fun i h1 h2 => ?_⟩
    · have := ih.len
      simp only; omega
    · simp only
      rw [if_pos n1, n2, ih.ti.kid _ _ hn (side_le _ _), show 6 - (k + 1) = 5 - k by omega, ← at_kid hl (by omega)]
    · simp only
      unfold updB
      by_cases e : i = 5 - k
      · rw [if_pos e, n2, e]
      · rw [if_neg e]; exact ih.l i (by omega) h2
theorem down_ok {r : RigP} {ts : List ByteArray} {t : TreP} {F f : Nat → ByteArray} (h : TI r t F f) (hf : Fine r) {leaf : Nat} (hl : leaf < 64) : DnI r ts t F f leaf 6 (downT r ts t leaf) := dn_ok h hf hl 6 (Nat.le_refl _)
/-- A leaf is got. -/
structure GetI (r : RigP) (ts : List ByteArray) (t : TreP) (F f : Nat → ByteArray) (leaf : Nat) (q : GetR) : Prop where
  e : q.e = 0
  fine : Fine q.r
  same : Same r q.r
  ti : TI q.r q.t F f
  sheet : q.t.sheet = t.sheet
  len : q.ts.length ≤ ts.length + 7
  is : q.is = true ↔ f leaf ≠ z64
  s : q.is = true → q.s = f leaf
theorem getT_ok {r : RigP} {ts : List ByteArray} {t : TreP} {F f : Nat → ByteArray} (h : TI r t F f) (hf : Fine r) {leaf : Nat} (hl : leaf < 64) : GetI r ts t F f leaf (getT r ts t leaf) := by
  have hd := down_ok (ts := ts) h hf hl
  obtain ⟨p, ep⟩ : ∃ p, p = downT r ts t leaf := ⟨_, rfl⟩
  rw [← ep] at hd
  have hx : ∃ x : RigP × List ByteArray × ByteArray × Int, getX p leaf = x ∧ x.2.2.2 = 0 ∧ x.2.2.1 = f leaf ∧ Fine x.1 ∧ Same p.r x.1 ∧ x.2.1.length ≤ p.ts.length + 1 := by
    refine ⟨_, rfl, ?_⟩
    unfold getX
    cases hg : getS p.t.sheet (224 + leaf : Nat) with
    | some s => exact ⟨rfl, hd.ti.sheet leaf s hl hg, hd.fine, Same.refl _, Nat.le_succ _⟩
    | none =>
      have hv := hd.ti.leaf leaf hl hg
      have hz := hd.ti.fsz leaf hl
      have hs := hd.sum
      have hr := readT_ok (sf := leafD) hd.fine hd.ti.d (i := 224 + leaf) (by omega) p.ts (want := p.sum) (by
        rw [hv, leafD_ok hz, hs]
        show dl (D (p0 (f leaf))) = dl (dg F f (at_ leaf 0))
        rw [at_0]
        unfold dg
        rw [if_neg (by omega), show leaf + 63 - 63 = leaf by omega])
      simp only
      rw [hr, hv]
      exact ⟨rfl, rfl, hd.fine.ticked, same_tick _, by rw [leafD_ok hz]; exact addT_len _ _⟩
  obtain ⟨x, hx, x1, x2, x3, x4, x5⟩ := hx
  have hlen := hd.len
  by_cases hz : f leaf = z64
  · rw [getT_2 ep hd.e hx (.inr (by rw [x2, hz]))]
    exact ⟨x1, x3, hd.same.trans x4, hd.ti.same x4, hd.sheet, by show x.2.1.length ≤ _; omega, ⟨fun h => (by cases h), fun h => absurd hz h⟩, fun h => (by cases h)⟩
  · rw [getT_3 ep hd.e hx (by rintro (h1 | h1); exact h1 x1; exact hz (x2.symm.trans h1))]
    exact ⟨rfl, x3, hd.same.trans x4, hd.ti.same x4, hd.sheet, by show x.2.1.length ≤ _; omega, ⟨fun _ => hz, fun _ => rfl⟩, fun _ => x2⟩
theorem getT_d (r : RigP) (ts : List ByteArray) (t : TreP) (leaf : Nat) : (getT r ts t leaf).t.d = (downT r ts t leaf).t.d := by
  unfold getT
  split
  · rfl
  · split <;> rfl
theorem putT_d (r : RigP) (ts : List ByteArray) (t : TreP) (leaf : Nat) (b : ByteArray) : (putT r ts t leaf b).t.d = (downT r ts t leaf).t.d := by
  unfold putT
  split
  · rfl
  · simp only
    unfold putC
    rw [(chg_d _ _ _ _).1]
theorem str_dl_size (d : Dg) : (str (dl d)).size = 32 := by rw [Ev.str_size, dl_len]
theorem withS_size {s : ByteArray} (h : s.size = 64) (side : Nat) (d : Dg) : (withS s side d).size = 64 := by
  unfold withS
  rw [if_pos h]
  split
  · rw [ByteArray.size_append, str_dl_size, ByteArray.size_extract]; omega
  · rw [ByteArray.size_append, str_dl_size, ByteArray.size_extract]; omega
theorem ext_l (s : ByteArray) (i j : Nat) : (s.extract i j).data.toList = (s.data.toList.take j).drop i := by
  conv => lhs; rw [show s = str s.data.toList from (str_eta s).symm]
  rw [Geom.ext_str]; rfl
theorem withS_0 {s : ByteArray} (h : s.size = 64) (d : Dg) : (withS s 0 d).data.toList = dl d ++ s.data.toList.drop 32 := by
  have hl : s.data.toList.length = 64 := h
  unfold withS
  rw [if_pos h, if_pos rfl, ByteArray.data_append, Array.toList_append, ext_l, List.take_of_length_le (by omega)]
  rfl
theorem withS_1 {s : ByteArray} (h : s.size = 64) (d : Dg) : (withS s 1 d).data.toList = s.data.toList.take 32 ++ dl d := by
  unfold withS
  rw [if_pos h, if_neg (by omega), ByteArray.data_append, Array.toList_append, ext_l, List.drop_zero]
  rfl
theorem dl_eq {a b : Dg} (h : ∀ j, j < 32 → a j = b j) : dl a = dl b := by
  unfold dl
  apply List.map_congr_left
  intro j hj
  exact h j (List.mem_range.1 hj)
theorem dl_get {a : Dg} {j : Nat} (h : j < 32) : (dl a)[j]? = some (a j) := by unfold dl; rw [List.getElem?_map, List.getElem?_range h]; rfl
theorem split_with {s : ByteArray} (h : s.size = 64) (d : Dg) {side : Nat} (hs : side ≤ 1) : dl (splitD (withS s side d) side) = dl d := by
  have hl : s.data.toList.length = 64 := h
  have hw := withS_size h side d
  apply dl_eq
  intro j hj
  unfold splitD
  rw [if_pos hw]
  unfold halfD
  have hc : side = 0 ∨ side = 1 := by omega
  rcases hc with rfl | rfl
  · rw [withS_0 h, List.getElem?_append_left (by rw [dl_len]; omega), show 32 * 0 + j = j by omega, dl_get hj]; rfl
  · rw [withS_1 h, List.getElem?_append_right (by rw [List.length_take]; omega), List.length_take, show 32 * 1 + j - min 32 s.data.toList.length = j by omega, dl_get hj]; rfl
theorem split_other {s : ByteArray} (h : s.size = 64) (d : Dg) {side o : Nat} (hs : side ≤ 1) (ho : o ≤ 1) (hne : o ≠ side) : dl (splitD (withS s side d) o) = dl (splitD s o) := by
  have hl : s.data.toList.length = 64 := h
  have hw := withS_size h side d
  apply dl_eq
  intro j hj
  unfold splitD
  rw [if_pos hw, if_pos h]
  unfold halfD
  have hc : side = 0 ∨ side = 1 := by omega
  rcases hc with rfl | rfl
  · have : o = 1 := by omega
    subst this
    rw [withS_0 h, List.getElem?_append_right (by rw [dl_len]; omega), dl_len, List.getElem?_drop]
    congr 2; omega
  · have : o = 0 := by omega
    subst this
    rw [withS_1 h, List.getElem?_append_left (by rw [List.length_take]; omega), List.getElem?_take, if_pos (by omega)]
/-- What is known on the way up. -/
structure ChI (t0 : TreP) (p0 : ChP) (leaf : Nat) (l : Nat → ByteArray) (k : Nat) : Prop where
  on : ∀ i, i < k → getS (chg leaf l p0 k).t.known (at_ leaf (i + 1) : Nat) = some (chB leaf l i (chg leaf l p0 i))
  off : ∀ n : Int, (∀ i, i < k → n ≠ (at_ leaf (i + 1) : Nat)) → getS (chg leaf l p0 k).t.known n = getS p0.t.known n
  sh : ∀ n : Nat, 224 ≤ n → getS (chg leaf l p0 k).t.sheet (n : Int) = getS p0.t.sheet (n : Int)
  len : (chg leaf l p0 k).t.sheet.length ≤ p0.t.sheet.length + k
theorem ch_ok {leaf : Nat} (hl : leaf < 64) (t0 : TreP) (p0 : ChP) (l : Nat → ByteArray) : ∀ k, k ≤ 6 → ChI t0 p0 leaf l k
  | 0, _ => ⟨fun i h => by omega, fun n _ => rfl, fun n _ => rfl, Nat.le_refl _⟩
  | k + 1, hk => by
    have ih := ch_ok hl t0 p0 l k (by omega)
    refine ⟨fun i hi => ?_, fun n hn => ?_, fun n hn => ?_, ?_⟩
    · rw [chg_s]; unfold chS
      simp only
      rw [getS_set]
      by_cases e : i = k
      · subst e; rw [if_pos rfl]
      · have hne : at_ leaf (i + 1) ≠ at_ leaf (k + 1) := fun h => e (at_inj hl (by omega) (by omega) h)
        rw [if_neg (by omega)]
        exact ih.on i (by omega)
    · rw [chg_s]; unfold chS
      simp only
      rw [getS_set, if_neg (hn k (by omega))]
      exact ih.off n fun i hi => hn i (by omega)
    · rw [chg_s]; unfold chS
      simp only
      have := at_node hl (show k < 6 by omega)
      rw [getS_set, if_neg (by omega)]
      exact ih.sh n hn
    · rw [chg_s]; unfold chS
      simp only
      have := setS_len (161 + at_ leaf (k + 1) : Nat) (chB leaf l k (chg leaf l p0 k)) (chg leaf l p0 k).t.sheet
      have := ih.len
      omega
open Classical in
/-- The nodes behind a put. -/
noncomputable def newF (F : Nat → ByteArray) (leaf : Nat) (l : Nat → ByteArray) (p0 : ChP) (n : Nat) : ByteArray :=
  if h : ∃ i, i < 6 ∧ at_ leaf (i + 1) = n then chB leaf l h.choose (chg leaf l p0 h.choose) else F n
theorem newF_on {F : Nat → ByteArray} {leaf : Nat} (hl : leaf < 64) (l : Nat → ByteArray) (p0 : ChP) {i : Nat} (hi : i < 6) : newF F leaf l p0 (at_ leaf (i + 1)) = chB leaf l i (chg leaf l p0 i) := by
  have h : ∃ j, j < 6 ∧ at_ leaf (j + 1) = at_ leaf (i + 1) := ⟨i, hi, rfl⟩
  unfold newF
  rw [dif_pos h]
  have hs := h.choose_spec
  have e : h.choose = i := by
    rcases Nat.le_total h.choose i with h1 | h1
    · exact at_inj hl h1 hi hs.2
    · exact (at_inj hl h1 hs.1 hs.2.symm).symm
  rw [e]
theorem newF_off {F : Nat → ByteArray} {leaf : Nat} (l : Nat → ByteArray) (p0 : ChP) {n : Nat} (h : ¬ ∃ i, i < 6 ∧ at_ leaf (i + 1) = n) : newF F leaf l p0 n = F n := by
  unfold newF; rw [dif_neg h]
theorem mem_setS {k : Int} {s : ByteArray} : ∀ {l : List (Int × ByteArray)} {p : Int × ByteArray}, p ∈ setS l k s → p = (k, s) ∨ p ∈ l
  | [], p, h => by
    unfold setS at h
    exact .inl (List.mem_singleton.1 h)
  | (a, u) :: t, p, h => by
    unfold setS at h
    split at h
    · rename_i e
      rcases List.mem_cons.1 h with h | h
      · exact .inl (by rw [h, e])
      · exact .inr (List.mem_cons_of_mem _ h)
    · rcases List.mem_cons.1 h with h | h
      · exact .inr (h ▸ List.mem_cons_self)
      · rcases mem_setS h with h | h
        · exact .inl h
        · exact .inr (List.mem_cons_of_mem _ h)
theorem nodup_setS {k : Int} {s : ByteArray} : ∀ {l : List (Int × ByteArray)}, (l.map (·.1)).Nodup → ((setS l k s).map (·.1)).Nodup
  | [], _ => by unfold setS; simp
  | (a, u) :: t, h => by
    have h' := List.nodup_cons.1 (show (a :: t.map (·.1)).Nodup from h)
    unfold setS
    split
    · exact h
    · rename_i hne
      show (a :: (setS t k s).map (·.1)).Nodup
      refine List.nodup_cons.2 ⟨fun hm => ?_, nodup_setS h'.2⟩
      obtain ⟨p, hp, e⟩ := List.mem_map.1 hm
      rcases mem_setS hp with rfl | hp
      · exact hne e
      · exact h'.1 (e ▸ List.mem_map_of_mem hp)
/-- How the sheet has changed. -/
structure ShJ (t t' : TreP) (F F' : Nat → ByteArray) : Prop where
  nd : ∀ n : Nat, n < 63 → getS t'.sheet (161 + n : Nat) = some (F' n) ∨ (getS t'.sheet (161 + n : Nat) = getS t.sheet (161 + n : Nat) ∧ F' n = F n)
  mem : ∀ p ∈ t'.sheet, p ∈ t.sheet ∨ (161 ≤ p.1 ∧ p.1 < 288 ∧ p.2.size = 64)
  un : (t.sheet.map (·.1)).Nodup → (t'.sheet.map (·.1)).Nodup
  d : t'.d = t.d
structure ChSh (p0 : ChP) (leaf : Nat) (l : Nat → ByteArray) (k : Nat) : Prop where
  on : ∀ i, i < k → getS (chg leaf l p0 k).t.sheet (161 + at_ leaf (i + 1) : Nat) = some (chB leaf l i (chg leaf l p0 i))
  off : ∀ n : Int, (∀ i, i < k → n ≠ (161 + at_ leaf (i + 1) : Nat)) → getS (chg leaf l p0 k).t.sheet n = getS p0.t.sheet n
  mem : ∀ p ∈ (chg leaf l p0 k).t.sheet, p ∈ p0.t.sheet ∨ ∃ i, i < k ∧ p = (((161 + at_ leaf (i + 1) : Nat) : Int), chB leaf l i (chg leaf l p0 i))
  un : (p0.t.sheet.map (·.1)).Nodup → ((chg leaf l p0 k).t.sheet.map (·.1)).Nodup
theorem ch_sh {leaf : Nat} (hl : leaf < 64) (p0 : ChP) (l : Nat → ByteArray) : ∀ k, k ≤ 6 → ChSh p0 leaf l k
  | 0, _ => ⟨fun i h => by omega, fun n _ => rfl, fun p hp => .inl hp, id⟩
  | k + 1, hk => by
    have ih := ch_sh hl p0 l k (by omega)
    refine ⟨fun i hi => ?_, fun n hn => ?_, fun p hp => ?_, fun hn => ?_⟩
    · rw [chg_s]; unfold chS
      simp only
      rw [getS_set]
      by_cases e : i = k
      · subst e; rw [if_pos rfl]
      · have hne : at_ leaf (i + 1) ≠ at_ leaf (k + 1) := fun h => e (at_inj hl (by omega) (by omega) h)
        rw [if_neg (by omega)]
        exact ih.on i (by omega)
    · rw [chg_s]; unfold chS
      simp only
      rw [getS_set, if_neg (hn k (by omega))]
      exact ih.off n fun i hi => hn i (by omega)
    · rw [chg_s] at hp; unfold chS at hp
      simp only at hp
      rcases mem_setS hp with rfl | hp
      · exact .inr ⟨k, by omega, rfl⟩
      · rcases ih.mem p hp with h | ⟨i, hi, h⟩
        · exact .inl h
        · exact .inr ⟨i, by omega, h⟩
    · rw [chg_s]; unfold chS
      simp only
      exact nodup_setS (ih.un hn)
structure PutI (r : RigP) (ts : List ByteArray) (t : TreP) (F f : Nat → ByteArray) (leaf : Nat) (b : ByteArray) (q : PutR) : Prop where
  e : q.e = 0
  fine : Fine q.r
  same : Same r q.r
  ti : ∃ F', TI q.r q.t F' (updB f leaf b) ∧ ShJ t q.t F F'
  sheet : q.t.sheet.length ≤ t.sheet.length + 7
  len : q.ts.length ≤ ts.length + 13
theorem chB_size {F f : Nat → ByteArray} {r : RigP} {ts : List ByteArray} {t : TreP} {leaf : Nat} (hl : leaf < 64) {p : DnP} (hd : DnI r ts t F f leaf 6 p) {i : Nat} (hi : i < 6) (c : ChP) : (chB leaf p.l i c).size = 64 := by
  unfold chB
  rw [hd.l i (by omega) hi]
  exact withS_size (hd.ti.sz _ (at_node hl hi)) _ _
theorem chg_sum {F f : Nat → ByteArray} {r : RigP} {ts : List ByteArray} {t : TreP} {leaf : Nat} (hl : leaf < 64) {p : DnP} (hd : DnI r ts t F f leaf 6 p) {i : Nat} (hi : i < 6) (c0 : ChP) : (chg leaf p.l c0 (i + 1)).sum = D (p1 (chB leaf p.l i (chg leaf p.l c0 i))) := by
  rw [chg_s]; unfold chS
  simp only
  rw [nodeD_ok (chB_size hl hd hi _)]
theorem putT_ok {r : RigP} {ts : List ByteArray} {t : TreP} {F f : Nat → ByteArray} (h : TI r t F f) (hf : Fine r) {leaf : Nat} (hl : leaf < 64) {b : ByteArray} (hb : b.size = 64) : PutI r ts t F f leaf b (putT r ts t leaf b) := by
  have hd := down_ok (ts := ts) h hf hl
  obtain ⟨p, ep⟩ : ∃ p, p = downT r ts t leaf := ⟨_, rfl⟩
  rw [← ep] at hd
  obtain ⟨c, ec⟩ : ∃ c, c = putC p leaf b := ⟨_, rfl⟩
  rw [putT_2 ep hd.e ec]
  unfold putC at ec
  obtain ⟨c0, e0⟩ : ∃ c0, c0 = (⟨(leafD p.ts b).1, p.t, (leafD p.ts b).2⟩ : ChP) := ⟨_, rfl⟩
  rw [← e0] at ec
  obtain ⟨c1, c2, c3, c4⟩ := ch_ok hl t c0 p.l 6 (Nat.le_refl _)
  obtain ⟨k1, k2, k3, k4⟩ := ch_sh hl c0 p.l 6 (Nat.le_refl _)
  have hcd := chg_d leaf p.l c0 6
  have hcl := chg_len leaf p.l c0 6
  have hsum := fun i hi => chg_sum (i := i) hl hd hi c0
  have hcs : c.sum = D (p1 (chB leaf p.l 5 (chg leaf p.l c0 5))) := by rw [ec]; exact hsum 5 (by omega)
  rw [← ec] at c2 c3 c4 hcd hcl k2 k3 k4
  have k1' : ∀ i, i < 6 → getS c.t.sheet (161 + at_ leaf (i + 1) : Nat) = some (chB leaf p.l i (chg leaf p.l c0 i)) := fun i hi => by rw [ec]; exact k1 i hi
  have c1' : ∀ i, i < 6 → getS c.t.known (at_ leaf (i + 1) : Nat) = some (chB leaf p.l i (chg leaf p.l c0 i)) := fun i hi => by rw [ec]; exact c1 i hi
  have h0t : c0.t = p.t := by rw [e0]
  have h0s : c0.sum = D (p0 b) := by rw [e0, leafD_ok hb]
  have h0l : c0.ts.length ≤ p.ts.length + 1 := by rw [e0, leafD_ok hb]; exact addT_len _ _
  rw [h0t] at c2 c3 c4 hcd k2 k3 k4
  rw [hd.sheet] at k2 k3 k4
  have hpl : ∀ i, i < 6 → p.l i = F (at_ leaf (i + 1)) := fun i hi => hd.l i (by omega) hi
  have on := fun i (hi : i < 6) => newF_on (F := F) hl p.l c0 hi
  have off : ∀ n, (¬ ∃ i, i < 6 ∧ at_ leaf (i + 1) = n) → newF F leaf p.l c0 n = F n := fun n hn => newF_off p.l c0 hn
  have hdl := hd.len
  -- the sum of what a step up has
  have sumi : ∀ i, i < 6 → (chg leaf p.l c0 i).sum = dg (newF F leaf p.l c0) (updB f leaf b) (at_ leaf i) := fun i hi => by
    cases i with
    | zero =>
      rw [chg_0, h0s, at_0]
      unfold dg updB
      rw [if_neg (by omega), if_pos (by omega)]
    | succ j =>
      rw [hsum j (by omega), ← on j (by omega)]
      unfold dg
      rw [if_pos (at_node hl (by omega))]
  -- a node that is no child on the path
  have other : ∀ n s, n < 63 → s ≤ 1 → (∀ j, j < 6 → at_ leaf (j + 1) = n → s ≠ side leaf j) → dg (newF F leaf p.l c0) (updB f leaf b) (2 * n + 1 + s) = dg F f (2 * n + 1 + s) := fun n s hn hs hne => by
    unfold dg
    by_cases hm : 2 * n + 1 + s < 63
    · rw [if_pos hm, if_pos hm, off]
      rintro ⟨j, hj, e⟩
      by_cases h5 : j = 5
      · subst h5; rw [at_6 hl] at e; omega
      · have hk := at_kid hl (show j + 1 < 6 by omega)
        have hsl := side_le leaf (j + 1)
        have := at_s leaf (j + 1)
        exact hne (j + 1) (by omega) (by omega) (by omega)
    · rw [if_neg hm, if_neg hm]
      unfold updB
      rw [if_neg]
      intro e
      have hk := at_kid hl (show 0 < 6 by omega)
      have hsl := side_le leaf 0
      have h00 := at_0 leaf
      exact hne 0 (by omega) (by omega) (by omega)
  refine ⟨rfl, hd.fine, hd.same, ⟨newF F leaf p.l c0, ?_, ?_⟩, ?_, ?_⟩
  · refine ⟨?_, fun n hn => ?_, fun n hn => ?_, ?_, fun n s hn hs => ?_, fun n s hn hg => ?_, fun n hn hg => ?_, fun n s hn hg => ?_, fun n hn hg => ?_⟩
    · simp only; rw [hcd.1]; exact hd.ti.d
    · by_cases hp : ∃ i, i < 6 ∧ at_ leaf (i + 1) = n
      · obtain ⟨i, hi, rfl⟩ := hp
        rw [on i hi]; exact chB_size hl hd hi _
      · rw [off n hp]; exact hd.ti.sz n hn
    · unfold updB
      split
      · exact hb
      · exact hd.ti.fsz n hn
    · simp only
      rw [hcs, ← on 5 (by omega), at_6 hl]
    · by_cases hp : ∃ i, i < 6 ∧ at_ leaf (i + 1) = n
      · obtain ⟨i, hi, rfl⟩ := hp
        have hz := hd.ti.sz _ (at_node hl hi)
        rw [on i hi]
        unfold chB
        rw [hpl i hi]
        by_cases e : s = side leaf i
        · subst e
          rw [split_with hz _ hs, ← at_kid hl hi, sumi i hi]
        · rw [split_other hz _ (side_le _ _) hs e, hd.ti.kid _ _ hn hs, other _ s hn hs]
          intro j hj ej
          have : j = i := by
            rcases Nat.le_total j i with h1 | h1
            · exact at_inj hl h1 hi ej
            · exact (at_inj hl h1 hj ej.symm).symm
          subst this; exact e
      · rw [off n hp, hd.ti.kid n s hn hs, other n s hn hs fun j hj ej => absurd ⟨j, hj, ej⟩ hp]
    · simp only at hg
      by_cases hp : ∃ i, i < 6 ∧ at_ leaf (i + 1) = n
      · obtain ⟨i, hi, rfl⟩ := hp
        rw [c1' i hi] at hg
        rw [on i hi]; exact (Option.some.inj hg).symm
      · rw [c2 n fun i hi e => hp ⟨i, hi, by omega⟩] at hg
        rw [off n hp]; exact hd.ti.known n s hn hg
    · simp only at hg ⊢
      by_cases hp : ∃ i, i < 6 ∧ at_ leaf (i + 1) = n
      · obtain ⟨i, hi, rfl⟩ := hp
        rw [c1' i hi] at hg; cases hg
      · rw [c2 n fun i hi e => hp ⟨i, hi, by omega⟩] at hg
        rw [off n hp, hcd.1]; exact hd.ti.dev n hn hg
    · simp only at hg
      rw [getS_set] at hg
      unfold updB
      by_cases e : n = leaf
      · subst e; rw [if_pos rfl] at hg ⊢; exact (Option.some.inj hg).symm
      · rw [if_neg (by omega), c3 (224 + n) (by omega)] at hg
        rw [if_neg e]; exact hd.ti.sheet n s hn hg
    · simp only at hg ⊢
      rw [getS_set] at hg
      unfold updB
      by_cases e : n = leaf
      · subst e; rw [if_pos rfl] at hg; cases hg
      · rw [if_neg (by omega), c3 (224 + n) (by omega)] at hg
        rw [if_neg e, hcd.1]; exact hd.ti.leaf n hn hg
  · refine ⟨fun n hn => ?_, fun q hq => ?_, fun hn => ?_, ?_⟩
    · simp only
      rw [getS_set, if_neg (by omega)]
      by_cases hp : ∃ i, i < 6 ∧ at_ leaf (i + 1) = n
      · obtain ⟨i, hi, rfl⟩ := hp
        rw [k1' i hi, on i hi]; exact .inl rfl
      · rw [off n hp]
        exact .inr ⟨k2 _ fun i hi e => hp ⟨i, hi, by omega⟩, rfl⟩
    · simp only at hq
      rcases mem_setS hq with rfl | hq
      · exact .inr ⟨by show (161 : Int) ≤ (224 + leaf : Nat); omega, by show ((224 + leaf : Nat) : Int) < 288; omega, hb⟩
      · rcases k3 q hq with h1 | ⟨i, hi, rfl⟩
        · exact .inl h1
        · have := at_node hl hi
          exact .inr ⟨by show (161 : Int) ≤ (161 + at_ leaf (i + 1) : Nat); omega, by show ((161 + at_ leaf (i + 1) : Nat) : Int) < 288; omega, chB_size hl hd hi _⟩
    · simp only
      exact nodup_setS (k4 hn)
    · simp only
      rw [hcd.1]; exact hd.d
  · simp only
    have := setS_len (224 + leaf : Nat) b c.t.sheet
    rw [hd.sheet] at c4
    omega
  · simp only
    omega
end Go.Proofs.YtkjamonkohpcnaaGreat.Tree
/- A vault on a store: what its calls answer. -/
namespace Go.Proofs.YtkjamonkohpcnaaGreat.Wld
open Go Ev Sha Aes Orc Node Rec Chn Jrn Cau Sto Ivs Ctr Aut
open Rig (Fnc_takeR RigP Rg rgM z64 app_of RigA)
open Tree (TreP TreA Tre treM TI Same getT_ok putT_ok GetI PutI updB getT putT)
set_option linter.unusedVariables false
set_option linter.unusedSimpArgs false
set_option maxRecDepth 100000
/-- A state: rig, oracle, store, vault. -/
structure Sy where
  r : RigP
  o : Orc
  V : StoV
  v : VP
def syM (a : RigA) (A : StoA) (B : VA) (S : Sy) : List Blk := sysM a S.r S.o A S.V ++ vM B A.sn S.v
/-- What holds: f0, f1 the leaves, m how many blocks a sheet has at most, b how many texts were summed at most. -/
structure WI (a : RigA) (A : StoA) (on : Nat) (S : Sy) (f0 f1 : Nat → ByteArray) (m b : Nat) : Prop where
  sok : SOk ⟨A, S.V⟩ a.rn on
  on : S.o.on = on
  t0 : ∃ F, TI S.r S.V.t0 F f0
  t1 : ∃ F, TI S.r S.V.t1 F f1
  d0 : S.V.t0.d = 0
  d1 : S.V.t1.d = 1
  sh0 : S.V.t0.sheet.length ≤ m
  sh1 : S.V.t1.sheet.length ≤ m
  len : S.o.ts.length ≤ b
  vok : VOk S.r S.V S.v.x
  key : ∀ i, by8 (S.v.k i)
  cnt : 0 ≤ S.v.n ∧ S.v.n ≤ m
def fs (f0 f1 : Nat → ByteArray) (d : Int) : Nat → ByteArray := if d = 0 then f0 else f1
theorem WI.can {a : RigA} {A : StoA} {on : Nat} {S : Sy} {f0 f1 : Nat → ByteArray} {m b : Nat} (h : WI a A on S f0 f1 m b) (hb : b ≤ 1099511610000) : Aut.Can a S.o A S.V :=
  ⟨by rw [h.on]; exact h.sok, h.vok.att, h.vok.ok, by have := h.len; omega⟩
theorem sok_to {A : StoA} {V V' : StoV} {rn on : Nat} (h : SOk ⟨A, V⟩ rn on) (h1 : V'.rn = V.rn) (h2 : V'.on = V.on) : SOk ⟨A, V'⟩ rn on := ⟨h1.trans h.rn, h2.trans h.on, h.r0, h.o0, h.r1, h.o1⟩
theorem fl_0 {V : StoV} (h : V.failed = 0) {e : Int} (he : failE e V.failed = 0) : V.fl e = V := by
  unfold StoV.fl
  rw [he, ← h]
theorem getO_in {r : RigP} {ts : List ByteArray} {V : StoV} {d : Int} {l : Nat} (hd : d = 0 ∨ d = 1) (hl : l < 64) :
    getO r ts V d l = ⟨(getT r ts (V.tr d) l).r, (getT r ts (V.tr d) l).ts, V.setTr d (getT r ts (V.tr d) l).t, (getT r ts (V.tr d) l).s, (getT r ts (V.tr d) l).is, (getT r ts (V.tr d) l).e⟩ := by
  unfold getO
  rw [if_neg (by omega)]
  unfold getA
  rw [if_pos ⟨by omega, by omega⟩]
  rfl
theorem putO_in {r : RigP} {ts : List ByteArray} {V : StoV} {d : Int} {l : Nat} {s : ByteArray} (hd : d = 0 ∨ d = 1) (hl : l < 64) (hs : s.size = 64) (hr : (V.tr d).sheet.length ≤ 57) :
    putO r ts V d l s = ⟨(putT r ts (V.tr d) l s).r, (putT r ts (V.tr d) l s).ts, V.setTr d (putT r ts (V.tr d) l s).t, ByteArray.empty, false, (putT r ts (V.tr d) l s).e⟩ := by
  unfold putO
  rw [if_neg (by omega), if_neg (by omega)]
  unfold putA
  rw [if_pos ⟨by omega, by omega⟩, if_pos hs]
  rfl
/-- The store behind a call that changed a tree, and nothing else. -/
theorem wi_set {a : RigA} {A : StoA} {on : Nat} {S : Sy} {f0 f1 : Nat → ByteArray} {m b : Nat} (h : WI a A on S f0 f1 m b) {d : Int} (hd : d = 0 ∨ d = 1) {r' : RigP} {o' : Orc} {t' : TreP} {F' f' : Nat → ByteArray} {m' b' : Nat}
    (hf : Fine r') (hs : Same S.r r') (ht : TI r' t' F' f') (hdd : t'.d = d) (hl : t'.sheet.length ≤ m') (hm : m ≤ m') (ho : o'.on = on) (hb : o'.ts.length ≤ b') :
    WI a A on ⟨r', o', S.V.setTr d t', S.v⟩ (if d = 0 then f' else f0) (if d = 0 then f1 else f') m' b' := by
  obtain ⟨F0, h0⟩ := h.t0
  obtain ⟨F1, h1⟩ := h.t1
  have hv := h.vok
  have hc := h.cnt
  have s0 := h.sh0
  have s1 := h.sh1
  rcases hd with rfl | rfl
  · rw [if_pos rfl, if_pos rfl]
    exact ⟨sok_to h.sok rfl rfl, ho, ⟨F', ht⟩, ⟨F1, h1.same hs⟩, hdd, h.d1, hl, by show S.V.t1.sheet.length ≤ _; omega, hb, ⟨hv.row, hv.top, hv.reg, hf, hv.ok, hv.att⟩, h.key, ⟨hc.1, by show S.v.n ≤ _; have := hc.2; omega⟩⟩
  · rw [if_neg (by decide), if_neg (by decide)]
    exact ⟨sok_to h.sok rfl rfl, ho, ⟨F0, h0.same hs⟩, ⟨F', ht⟩, h.d0, hdd, by show S.V.t0.sheet.length ≤ _; omega, hl, hb, ⟨hv.row, hv.top, hv.reg, hf, hv.ok, hv.att⟩, h.key, ⟨hc.1, by show S.v.n ≤ _; have := hc.2; omega⟩⟩
theorem wi_tree {a : RigA} {A : StoA} {on : Nat} {S : Sy} {f0 f1 : Nat → ByteArray} {m b : Nat} (h : WI a A on S f0 f1 m b) {d : Int} (hd : d = 0 ∨ d = 1) : (∃ F, TI S.r (S.V.tr d) F (fs f0 f1 d)) ∧ (S.V.tr d).d = d ∧ (S.V.tr d).sheet.length ≤ m := by
  rcases hd with rfl | rfl
  · exact ⟨h.t0, h.d0, h.sh0⟩
  · exact ⟨h.t1, h.d1, h.sh1⟩
theorem fs_set (f0 f1 : Nat → ByteArray) (d : Int) : (if d = 0 then fs f0 f1 d else f0) = f0 ∧ (if d = 0 then f1 else fs f0 f1 d) = f1 := by
  unfold fs
  constructor
  · split <;> rfl
  · split <;> rfl
structure GotI (a : RigA) (A : StoA) (on : Nat) (S : Sy) (f0 f1 : Nat → ByteArray) (m b : Nat) (d : Int) (l : Nat) (q : OutR) : Prop where
  e : q.e = 0
  wi : ∀ o' : Orc, o'.on = on → o'.ts = q.ts → WI a A on ⟨q.r, o', q.V.fl 0, S.v⟩ f0 f1 m (b + 7)
  is : q.is = true ↔ fs f0 f1 d l ≠ z64
  s : q.is = true → q.s = fs f0 f1 d l
theorem got {a : RigA} {A : StoA} {on : Nat} {S : Sy} {f0 f1 : Nat → ByteArray} {m b : Nat} (h : WI a A on S f0 f1 m b) {d : Int} {l : Nat} (hd : d = 0 ∨ d = 1) (hl : l < 64) : GotI a A on S f0 f1 m b d l (getO S.r S.o.ts S.V d l) := by
  obtain ⟨⟨F, ht⟩, hdd, hsh⟩ := wi_tree h hd
  have hg := getT_ok (ts := S.o.ts) ht h.vok.fine hl
  have hd0 : ∀ t : TreP, (S.V.setTr d t).failed = 0 := fun t => by unfold StoV.setTr; split <;> exact h.vok.ok
  have htd : (getT S.r S.o.ts (S.V.tr d) l).t.d = d := by
    have := (Tree.down_ok (ts := S.o.ts) ht h.vok.fine hl)
    exact (Tree.getT_d _ _ _ _).trans (this.d.trans hdd)
  rw [getO_in hd hl]
  refine ⟨hg.e, fun o' ho hts => ?_, hg.is, hg.s⟩
  simp only at hts ⊢
  rw [fl_0 (hd0 _) (by rw [hd0]; rfl)]
  have := wi_set h hd (o' := o') (b' := b + 7) hg.fine hg.same hg.ti htd (by rw [hg.sheet]; exact hsh) (Nat.le_refl m) ho (by rw [hts]; have := hg.len; have := h.len; omega)
  rw [(fs_set f0 f1 d).1, (fs_set f0 f1 d).2] at this
  exact this
structure PutW (a : RigA) (A : StoA) (on : Nat) (S : Sy) (f0 f1 : Nat → ByteArray) (m b : Nat) (d : Int) (l : Nat) (s : ByteArray) (q : OutR) : Prop where
  e : q.e = 0
  wi : ∀ o' : Orc, o'.on = on → o'.ts = q.ts → WI a A on ⟨q.r, o', q.V.fl 0, S.v⟩ (if d = 0 then updB f0 l s else f0) (if d = 0 then f1 else updB f1 l s) (m + 7) (b + 13)
theorem fs_upd (f0 f1 : Nat → ByteArray) (d : Int) (l : Nat) (s : ByteArray) : (if d = 0 then updB (fs f0 f1 d) l s else f0) = (if d = 0 then updB f0 l s else f0) ∧ (if d = 0 then f1 else updB (fs f0 f1 d) l s) = (if d = 0 then f1 else updB f1 l s) := by
  unfold fs
  constructor
  · split <;> rfl
  · split <;> rfl
theorem put {a : RigA} {A : StoA} {on : Nat} {S : Sy} {f0 f1 : Nat → ByteArray} {m b : Nat} (h : WI a A on S f0 f1 m b) {d : Int} {l : Nat} {s : ByteArray} (hd : d = 0 ∨ d = 1) (hl : l < 64) (hs : s.size = 64) (hm : m ≤ 57) : PutW a A on S f0 f1 m b d l s (putO S.r S.o.ts S.V d l s) := by
  obtain ⟨⟨F, ht⟩, hdd, hsh⟩ := wi_tree h hd
  have hg := putT_ok (ts := S.o.ts) ht h.vok.fine hl hs
  have hd0 : ∀ t : TreP, (S.V.setTr d t).failed = 0 := fun t => by unfold StoV.setTr; split <;> exact h.vok.ok
  have htd : (putT S.r S.o.ts (S.V.tr d) l s).t.d = d := by
    have := (Tree.down_ok (ts := S.o.ts) ht h.vok.fine hl)
    exact (Tree.putT_d _ _ _ _ _).trans (this.d.trans hdd)
  obtain ⟨F', hti, _⟩ := hg.ti
  rw [putO_in hd hl hs (by omega)]
  refine ⟨hg.e, fun o' ho hts => ?_⟩
  simp only at hts ⊢
  rw [fl_0 (hd0 _) (by rw [hd0]; rfl)]
  have := wi_set h hd (o' := o') (b' := b + 13) (m' := m + 7) hg.fine hg.same hti htd (by have := hg.sheet; omega) (by omega) ho (by rw [hts]; have := hg.len; have := h.len; omega)
  rw [(fs_upd f0 f1 d l s).1, (fs_upd f0 f1 d l s).2] at this
  exact this
end Go.Proofs.YtkjamonkohpcnaaGreat.Wld
